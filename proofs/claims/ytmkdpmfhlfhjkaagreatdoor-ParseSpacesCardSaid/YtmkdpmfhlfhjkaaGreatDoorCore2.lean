/- Steps of the proof. -/
import Derived.Test.YtmkdpmfhlfhjkaaGreatDoorCore1
import Derived.Laws.BytesString
import Derived.Laws.Append
import Derived.Laws.AppendOwn
import Derived.Laws.MakeOwn
import Derived.Laws.IdiomStrings
import Derived.Deep.Upon
import Derived.Laws.Cover3
import Derived.RangeFuncLeaves
import Derived.RangeFuncRecord
import Derived.Orders
import Derived.Conc.MuLone
set_option linter.all false
namespace Go.Ab
open Go.MapKept (run_setObj_map run_checkKey run_findKey run_keyThatStays)
section
variable [QR] [QP] [Qv]
section
variable {P:ZL} {S:St} {e:Env} {a:Act}
theorem VR.fn_of {f:Fn} {x y:ZH} {us vs:ZI} (h:VRs S x us) (h':VRs S y vs):VR S (.fn f x y) (.func f us.toArray vs.toArray):=.fn f x y us vs h.1 h.2 h'.1 h'.2
theorem VR.slen_spec {x:SV} {v:Value} (hx:VR S x v) (hs:x.isSl=true):∃ ad cap,v=.slice ad x.slen cap:=by
 cases hx with
 |slc=>exact⟨_,_,rfl⟩
 |nilslc=>exact⟨_,_,rfl⟩
 |own=>exact⟨_,_,rfl⟩
 |val v =>
  have:v=.slice none 0 0:=by cases v<;>simp[SV.isSl]at hs; rename_i a b c; revert hs; cases a<;>cases b<;>cases c<;>simp
  subst this; exact⟨_,_,rfl⟩
 |_=>simp[SV.isSl]at hs
theorem QrC (f:Operand->Value) (as:Array Operand):as.map f=(as.toList.map f).toArray:=by cases as; simp
theorem VR.fn_inv {f:Fn} {x y:ZH} {v:Value} (h:VR S (.fn f x y) v):∃ us vs,v=.func f us.toArray vs.toArray/\VRs S x us/\VRs S y vs:=by
 cases h with
 |fn f x y us vs hl h hl' h'=>exact⟨us,vs,rfl,⟨hl,h⟩,⟨hl',h'⟩⟩
theorem QAv (d:Nat) {w:ZM} {t:ZK} {ms:Array (String×ZK)} (h:P.underlying t=some (.interface ms)) (t':ZK) (v:Value):(Op.equalIn (d+1) t (.iface t' v) .nilIface).run P w=.ok false w:=by
 simp[Op.equalIn,run_underlying h]
theorem QBq (d:Nat) {w:ZM} {t:ZK} {ms:Array (String×ZK)} (h:P.underlying t=some (.interface ms)) (t':ZK) (v:Value):(Op.equalIn (d+1) t .nilIface (.iface t' v)).run P w=.ok false w:=by
 simp[Op.equalIn,run_underlying h]
theorem Qxk (d:Nat) {w:ZM} {t:ZK} {ms:Array (String×ZK)} (h:P.underlying t=some (.interface ms)):(Op.equalIn (d+1) t .nilIface .nilIface).run P w=.ok true w:=by
 simp[Op.equalIn,run_underlying h]
theorem QrE {t:ZK} {z:SV} (h:QhG P t z=true):∃ zv,(∀ w:ZM,(zeroValue t).run P w=.ok zv w)/\VR S z zv:=by
 unfold QhG at h;split at h
 . rename_i i hi;split at h
   . rename_i zv hz;refine⟨zv,λw=>by simp[zeroValue,typeInfo,hi,hz],?_⟩;split at h
     . rename_i l vs;rw[Va,Zq,Vn]at h;obtain⟨h1,h2⟩:=h;have:VR S (.agg l) (.agg vs.toList.toArray):=.agg l vs.toList h1 λj s u hj hu=>by
        have:=h2 (s,u) (Vv (i:=j) (by rw[YO]; exact⟨hj,hu⟩));exact Qhk this
       simpa using this
     . cases h
     . exact Qhk h
   . cases h
 . cases h
theorem Qq3:∀ {cs:ZH} {us:ZI},Qg9 cs us=true->VRs S cs us
 |[],[],_=>VRs.nil S
 |s::r,v::vs,h=>by simp only[Qg9,Va]at h; exact VRs.cons (Qhk h.1) (Qq3 h.2)
 |[],_::_,h=>by simp[Qg9]at h
 |_::_,[],h=>by simp[Qg9]at h
theorem Qws {t:ZK} {kk:KK} {z:SV} (h:Ql4 P t kk z=true):∃ kt et,P.underlying t=some (.map kt et)/\P.underlying kt=some kk.desc/\QhG P et z=true/\kk.szB P=true:=by
 unfold Ql4 at h;split at h
 . rename_i kt et hu;rw[Va]at h;have h1:=h.1;have key:P.underlying kt=some kk.desc/\kk.szB P=true:=by
    split at h1
    . rename_i hk; cases kk<;>simp at h1; exact⟨hk,rfl⟩
    . rename_i k hk; cases kk<;>simp at h1; subst h1; exact⟨hk,rfl⟩
    . rename_i hk; cases kk<;>simp at h1; exact⟨hk,rfl⟩
    . rename_i e hk
      cases kk<;>simp at h1
      obtain⟨rfl,h2⟩:=h1;exact⟨hk,h2⟩
    . rename_i n t' hk
      cases kk<;>simp at h1
      obtain⟨⟨rfl,rfl⟩,h2⟩:=h1;exact⟨hk,h2⟩
    . cases h1
   exact⟨kt,et,hu,key.1,h.2,key.2⟩
 . cases h
theorem QzO (hS:Sim S) {s:SV} {v:Value} (h:VR S s v) {x:ZI×ZH} (hm:s.mapOf S.H=some x) :
 ∃ es:Array MapEntry,((v=.map none/\es = #[])\/∃ r cl,v=.map (some r)/\S.w.heap[r]? = some (Obj.map es cl))/\x.1=es.toList.map (·.key)/\VRs S x.2 (es.toList.map (·.val)):=by
 cases h with
 |val v =>
  cases v<;>simp[SV.mapOf]at hm
  rename_i b
  cases b with
  |none=>simp at hm; subst hm; exact⟨#[],.inl ⟨rfl,rfl⟩,rfl,VRs.nil S⟩
  |some b=>simp at hm
 |mp i ver l o ho hv hat =>
  simp only[SV.mapOf,ho]at hm;split at hm
  . rename_i hcond;split at hm
    . rename_i ks vs hcells
      cases hm
      have ho2:S.H[i]? = some ⟨.mk ks::vs,o.ty,o.ver,false⟩:=by
       rw[ho]; congr 1;obtain⟨c,t,vv,lv⟩:=o;simp only at hcells hcond ⊢;rw[hcells,hcond.1]
      obtain⟨l',es,cl,h1,h2,h3,h4⟩:=hS.map ho2;rw[hat hcond.2]at h1; cases h1
      exact⟨es,.inr ⟨l,cl,rfl,h2⟩,h3,h4⟩
    . cases hm
  . cases hm
 |mpf vs l es cl us hb hn hu hl h =>
  simp only[SV.mapOf]at hm
  cases hm
  subst hu;exact⟨es,.inr ⟨l,cl,rfl,hb⟩,rfl,hl,h⟩
 |_=>simp[SV.mapOf]at hm
theorem Qza {x:SV} {n:Int} {u:Value} (h:x.u8n=some n) (hv:VR S x u):u=.int .u8 n:=by
 unfold SV.u8n at h;split at h
 . cases h; cases hv; rfl
 . cases h
theorem QBz (hS:Sim S) {x:SV} {v:Value} (hx:VR S x v) (hsl:x.isSl=true) (hb:QgZ (x.row S.H) x.slen=true) {sT dT el:ZK} (hu:P.underlying sT=some (.slice el)) (hel:P.underlying el=some (.int .u8)) (hd:P.underlying dT=some .string) :
 (convert sT dT v).run P S.w=.ok (.string (Qge ((x.row S.H).take x.slen))) S.w:=by
 unfold QgZ at hb;rw[Va,Zq,Vn]at hb;obtain⟨hlen,hall⟩:=hb;have some_:∀ (ad:Addr) (cap:Nat),v=.slice (some ad) x.slen cap->(∀ j,j<x.slen->VR S (.ptr x j) (.pointer (some (ad.add j))))->(convert sT dT v).run P S.w=.ok (.string (Qge ((x.row S.H).take x.slen))) S.w:=by
  intro ad cap hv hp;subst hv;rw[run_convert_bytes_string S.w sT dT el (some ad) x.slen cap hu hel hd];have hcell:∀ (j:Nat) (u:Value),((QdT ((x.row S.H).take x.slen)).map (Value.int .u8))[j]? = some u->S.w.cell? (ad.add j)=some u:=by
   intro j u hj;have hbl:∀ l:ZH,QdT l=l.map λs=>s.u8n.getD 0:=by
    intro l; induction l with
    |nil=>rfl
    |cons a r ih=>rw[QdT,ih]; rfl
   rw[hbl,Yk,Vp,VY]at hj;obtain⟨c,hc,rfl⟩:=hj;have hjl:j<x.slen:=by
    have:=Ql hc;simp at this; omega
   have hc2:(x.row S.H)[j]? = some c:=by rw[YN hjl]at hc; exact hc
   obtain⟨ad',u',h1,h2,h3⟩:=(hp j hjl).at hS (j:=0) (c:=c) (by simp only[SV.at,VW]; simpa using hc2)
   cases h1
   have h4:=hall c (Vv hc);obtain⟨n,hn⟩:=YE.1 h4;have h5:=Qza hn h3;rw[QgK,V6]at h2;simp only[Function.comp,hn,VX];rw[h2,h5]
  have hl:=run_loadCells_list (P:=P) S.w ad _ hcell;have hln:((QdT ((x.row S.H).take x.slen)).map (Value.int .u8)).length=x.slen:=by
   have hbl:∀ l:ZH,(QdT l).length=l.length:=by
    intro l; induction l with
    |nil=>rfl
    |cons a r ih=>simp[QdT,ih]
   rw[Yl,hbl,YR]; omega
  rw[hln]at hl;exact run_bytesToString S.w ad x.slen cap _ hl
 have none_:∀ cap,v=.slice none 0 cap->x.slen=0->(convert sT dT v).run P S.w=.ok (.string (Qge ((x.row S.H).take x.slen))) S.w:=by
  intro cap hv h0;subst hv;rw[run_convert_bytes_string S.w sT dT el none 0 cap hu hel hd,h0];rfl
 cases hx with
 |slc cells len ad cap us hc hl hi h =>
  refine some_ ad cap rfl λj hj => ?_;exact .ptrI cells len _ ad us hl hi h
 |nilslc=>exact none_ 0 rfl rfl
 |own i off len sz' ver ad cap o ho hv hc hz h =>
  cases ad with
  |none =>
   have h0:=hz rfl;subst h0;exact none_ cap rfl rfl
  |some ad =>
   refine some_ ad cap rfl λj hj=>.ptrO i off len sz' ver _ _ o ho hv λe => ?_;have h2:=h e;unfold St.OwnAt at h2
   cases hρ:S.ρ i with
   |none=>rw[hρ]at h2; obtain⟨h2,_⟩:=h2; simp only[SV.slen]at hj; omega
   |some b =>
    rw[hρ]at h2;simp only[SV.slen]at hj;rcases h2 with h2|⟨h2,_⟩
    . omega
    . cases h2
      refine⟨b,rfl,?_⟩;unfold Addr.add; split
      . rename_i h3; simp
      . rfl
 |val v =>
  cases v<;>simp[SV.isSl]at hsl
  rename_i a len cap
  cases a with
  |none =>
   have h2:len=0/\cap=0:=by
    cases len<;>cases cap<;>simp_all
   obtain⟨rfl,rfl⟩:=h2;exact none_ 0 rfl rfl
  |some a=>simp at hsl
 |_=>simp[SV.isSl]at hsl
theorem Qtw (hS:Sim S) (he:QJ S e a.tmps) {o:Oper} {i:I} (hc:Qag P o.op i=true) (hs:(pv i e.ev S.H).1) :
 ∃ v,(execOp a.eval o).run P S.w=.ok (.value v) S.w/\VR S (pv i e.ev S.H).2 v:=by
 generalize hop:o.op=op at hc;have fin:∀ (m:Sem Value) (s:SV),(∃ v,m.run P S.w=.ok v S.w/\VR S s v) ->
  ∃ v,(do pure (Next.value (<- m)):Sem Next).run P S.w=.ok (.value v) S.w/\VR S s v:=by
  rintro m s ⟨v,h1,h2⟩; exact⟨v,by simp[h1],h2⟩
 cases i with
 |eqf neg ks x' y' =>
  simp only[Qag]at hc;split at hc
  . rename_i op2 t x y yt;rw[Va,Va,Va]at hc;obtain⟨⟨⟨h1,h2⟩,h3⟩,h4⟩:=hc;simp only[pv]at hs ⊢;simp only[execOp,hop];split at hs
    . rename_i l m hl hm;simp only[];obtain⟨g1,g2,g3⟩:=hs;have k1:=(QA h1 he).ug g1;have k2:=(QA h2 he).ug g2;rw[hl]at k1; rw[hm]at k2;obtain⟨us,hu,hus⟩:=k1.agg_inv;obtain⟨vs,hv,hvs⟩:=k2.agg_inv;unfold Qqk at h3;rw[Va,VM]at h3;obtain⟨q2,q3⟩:=h3;have done:(Op.equal t (.agg us.toArray) (.agg vs.toArray)).run P S.w=.ok (Qbs ks l m) S.w ->
       ∃ v,(execOp a.eval o).run P S.w=.ok (.value v) S.w/\VR S (bl (if neg=true then !Qbs ks l m else Qbs ks l m)) v:=by
       intro heq;simp only[execOp,hop];refine fin _ _ ⟨_,?_,.val _⟩;rw[hu,hv]
       cases neg with
       |true =>
        simp at h4; subst h4;simp[eqGuard,q2,binOp,heq]
       |false =>
        simp at h4; subst h4;simp[eqGuard,q2,binOp,heq]
      simp only[execOp,hop]at done;split at q3
      . rename_i fs hst;rw[Va,VM]at q3;obtain⟨q1,q3⟩:=q3;have hfo:P.fieldsOf t=fs:=by simp[Program.fieldsOf,hst]
        have hrun:=run_equalIn_struct (P:=P) S.w 9999 t us.toArray vs.toArray (by rw[hfo]; exact hst) q1;rw[hfo,QjX (S:=S) 9998 S.w fs.toList ks 0 l m us vs q3 hus hvs (by simp) (by simp) g3]at hrun;exact done hrun
      . rename_i n el hst;rw[Va,Va,Zq,Vn]at q3;obtain⟨⟨q4,q5⟩,q6⟩:=q3;obtain⟨inf,hinf,hsz⟩:∃ inf,P.info? el=some inf/\inf.size=1:=by
         unfold QaO at q5;split at q5
         . rename_i i hi; exact⟨i,hi,by simpa using q5⟩
         . cases q5
        have hco:P.cellsOf el=1:=by simp[Program.cellsOf,hinf,hsz]
        have hrun:=run_equalIn_array (P:=P) S.w 9999 us.toArray vs.toArray hst hinf;rw[hco,YU,<- q4,Qsj (S:=S) 9998 S.w ks 0 l m us vs q6 hus hvs (by simp) (by simp) g3]at hrun;exact done hrun
      . cases q3
    . exact hs.elim
  . cases hc
 |mov y =>
  simp only[Qag]at hc;split at hc
  . exact⟨_,by simp only[execOp,hop]; rfl,QA hc he⟩
  . exact⟨_,by simp only[execOp,hop]; rfl,QA hc he⟩
  . cases hc
 |pick c' a' b' =>
  simp only[Qag]at hc;split at hc
  . rename_i c x y;simp only[Va]at hc;obtain⟨⟨h1,h2⟩,h3⟩:=hc;simp only[pv]at hs ⊢;obtain⟨g1,g2,g3⟩:=hs;have e1:=(QA h1 he).isB g1;have e2:=QA h2 he;have e3:=QA h3 he;simp only[execOp,hop]
    cases hb:(e.ev c').bool with
    |true =>
     have e4:=e2.isB (g2 hb);refine⟨.bool (e.ev a').bool,?_,.val _⟩;simp[asBool,e1,hb,e4]
    |false =>
     have e4:=e3.isB (g3 hb);refine⟨.bool (e.ev b').bool,?_,.val _⟩;simp[asBool,e1,hb,e4]
  . cases hc
 |bin op' k x' y' =>
  simp only[Qag]at hc;split at hc
  . rename_i op2 t x y yt;simp only[Va,Zr]at hc;obtain⟨⟨⟨h1,h2⟩,h3⟩,h4⟩:=hc;subst h1;simp only[pv]at hs ⊢;simp only[execOp,hop];refine fin _ _ (QvV h4 (QA h2 he) (QA h3 he) ⟨?_,?_⟩ hs)
    . rintro rfl;simp only[Qg4,Va,Zs]at h4;have:=h4.2;split at this
      . rfl
      . cases this
    . rintro rfl;simp only[Qg4,Va,Vw,Zu]at h4;have:=h4.2;split at this
      . rfl
      . cases this
  . cases hc
 |neg k x' =>
  simp only[Qag]at hc;split at hc
  . have h1:=(QA hc he).isI hs;refine⟨_,?_,.val _⟩;simp[execOp,hop,h1,Op.unary,Op.intArith]
  . cases hc
 |not x' =>
  simp only[Qag]at hc;split at hc
  . have h1:=(QA hc he).isB hs;refine⟨_,?_,.val _⟩;simp[execOp,hop,h1,Op.unary]
  . cases hc
 |cvi k x' =>
  simp only[Qag]at hc;split at hc
  . rename_i s d x;simp only[Va]at hc;obtain⟨⟨h1,h2⟩,h3⟩:=hc;obtain⟨ds,hds⟩:=YE.1 h2;obtain⟨k',hk⟩:=(QA h1 he).isN hs;split at h3
    . rename_i k2 hd;simp at h3; subst h3;refine⟨_,?_,.val _⟩;simp[execOp,hop,hk,convert,run_underlying hds,run_underlying hd,Conv.intToInt]
    . cases h3
  . cases hc
 |rst x' =>
  simp only[Qag]at hc;split at hc
  . rename_i s d x;simp only[Va]at hc;obtain⟨⟨h1,h2⟩,h3⟩:=hc;obtain⟨ds,hds⟩:=YE.1 h2;obtain⟨k',hk⟩:=(QA h1 he).isN hs;split at h3
    . rename_i hd;refine⟨_,?_,.val _⟩;simp[execOp,hop,hk,convert,run_underlying hds,run_underlying hd,Conv.intToString]
    . cases h3
  . cases hc
 |ld1 p =>
  simp only[Qag]at hc;split at hc
  . simp only[Va]at hc;simp only[pv]at hs ⊢;simp only[execOp,hop];exact fin _ _ (Qpo hS ((QA hc.1 he).ug hs.1) hc.2 hs.2)
  . cases hc
 |ldn n p =>
  simp only[Qag]at hc;split at hc
  . simp only[Va]at hc;simp only[pv]at hs ⊢;simp only[execOp,hop];exact fin _ _ (Qoy hS ((QA hc.1.1 he).ug hs.1) hc.1.2 hc.2 hs.2.1 hs.2.2)
  . cases hc
 |fa off p =>
  simp only[Qag]at hc;split at hc
  . rename_i s x f;rw[Va]at hc;simp only[pv]at hs ⊢;simp only[execOp,hop];split at hs
    . rename_i s' k hp;simp only[];have h1:=(QA hc.1 he).ug hs;rw[hp]at h1;obtain⟨ad,h2,h3⟩:=QlO (off:=off) h1;refine fin _ _ ⟨_,?_,h3⟩;rw[h2];exact QCq hc.2 _
    . exact hs.elim
  . cases hc
 |fld1 off x' =>
  simp only[Qag]at hc;split at hc
  . simp only[Va]at hc;simp only[pv]at hs ⊢;simp only[execOp,hop];split at hs
    . rename_i l hl;simp only[];exact fin _ _ ((Qx3 (QA hc.1.1 he) hs.1 hl hc.1.2 hc.2 S.w).1 rfl hs.2)
    . exact hs.elim
  . cases hc
 |ia sz s j =>
  simp only[Qag]at hc;split at hc
  . simp only[Va]at hc;simp only[pv]at hs ⊢;simp only[execOp,hop];obtain⟨g1,g2,g3,g4,g5⟩:=hs;obtain⟨k,hk⟩:=(QA hc.1.2 he).isN g3;rw[hk];exact fin _ _ (QvB ((QA hc.1.1 he).ug g1) g2 hc.2 g4 g5)
  . cases hc
 |gix g len sz cs j =>
  simp only[Qag]at hc;split at hc
  . rename_i t g' ix;rw[Va,Va,Va,Zr]at hc;obtain⟨⟨⟨rfl,h2⟩,h1⟩,h3⟩:=hc;simp only[pv]at hs ⊢;simp only[execOp,hop];split at h3
    . rename_i n el hu;simp only[Va,Zr]at h3;obtain⟨g2,g3,g4⟩:=hs;unfold varB at h1;split at h1
      . rename_i us hg;have hc:=Qq3 (S:=S) h1;obtain⟨kk,hk⟩:=(QA h2 he).isN g2;refine fin _ _ ⟨_,?_,.ptrI cs cs.length _ ⟨g',0,none⟩ us hc.1 (hS.gl g' us hg).1 hc.2⟩;rw[hk];exact QsZ hu h3.2 ⟨g',0,none⟩ g3 (by rw[h3.1]; exact g4) S.w
      . cases h1
    . cases h3
  . cases hc
 |iap len sz p j =>
  simp only[Qag]at hc;split at hc
  . rename_i t x ix;rw[Va,Va]at hc;obtain⟨⟨h1,h2⟩,h3⟩:=hc;simp only[pv]at hs ⊢;simp only[execOp,hop];split at h3
    . rename_i n el hu;simp only[Va,Zr]at h3;split at hs
      . rename_i s' k hp;simp only[];obtain⟨g1,g2,g3,g4⟩:=hs;have h4:=(QA h1 he).ug g1;rw[hp]at h4;obtain⟨ad,h5,h6⟩:=QlO (off:=(e.ev j).int.toNat*sz) h4;obtain⟨kk,hk⟩:=(QA h2 he).isN g2;refine fin _ _ ⟨_,?_,h6⟩;rw[h5,hk];exact QsZ hu h3.2 ad g3 (by rw[h3.1]; exact g4) S.w
      . exact hs.elim
    . cases h3
  . cases hc
 |ixs s j =>
  simp only[Qag]at hc;split at hc
  . rename_i t x ix;rw[Va,Va]at hc;obtain⟨⟨h1,h2⟩,h3⟩:=hc;simp only[pv]at hs ⊢;simp only[execOp,hop];split at h3
    . rename_i hu;obtain⟨g1,g2,g3,g4⟩:=hs;obtain⟨kk,hk⟩:=(QA h2 he).isN g2;have h4:=(QA h1 he).isS g1;refine fin _ _ ⟨_,?_,.val _⟩;rw[h4,hk];exact QBY hu _ g3 g4 S.w
    . cases h3
  . cases hc
 |ixa len sz one s j =>
  simp only[Qag]at hc;split at hc
  . rename_i t x ix;rw[Va,Va]at hc;obtain⟨⟨h1,h2⟩,h3⟩:=hc;simp only[pv]at hs ⊢;simp only[execOp,hop];split at h3
    . rename_i n el hu;rw[Va,Va,Zr]at h3;split at hs
      . rename_i l hl;simp only[];obtain⟨g1,g2,g3,g4,g5,g6⟩:=hs;have h4:=(QA h1 he).ug g1;rw[hl]at h4;obtain⟨us,h5,h6⟩:=h4.agg_inv;obtain⟨kk,hk⟩:=(QA h2 he).isN g2;rw[h5,hk];exact fin _ _ (Qul hu h3.1.2 h3.2 h6 (by rw[h3.1.1]; exact g5) g6 g3 (by rw[h3.1.1]; exact g4))
      . exact hs.elim
    . cases h3
  . cases hc
 |sl sz x' lo' hi' =>
  simp only[Qag]at hc;split at hc
  . simp only[Va]at hc;obtain⟨⟨⟨h1,h2⟩,h3⟩,h4⟩:=hc;simp only[pv]at hs ⊢;simp only[execOp,hop];obtain⟨g1,g2,g3,g4,g5,g6,g7⟩:=hs;obtain⟨el,hu,hsz⟩:=QnL h4;exact fin _ _ (Qt4 hu hsz ((QA h1 he).ug g1) g2 h2 h3 he g4 g5 g6 g7 g3)
  . cases hc
 |sls x' lo' hi' =>
  simp only[Qag]at hc;split at hc
  . rename_i t x lo hi;rw[Va,Va,Va]at hc;obtain⟨⟨⟨h1,h2⟩,h3⟩,h4⟩:=hc;simp only[pv]at hs ⊢;simp only[execOp,hop];obtain⟨g1,g4,g5,g6,g7⟩:=hs;split at h4
    . rename_i hu;have h5:=(QA h1 he).isS g1;refine fin _ _ ⟨_,?_,.val _⟩;rw[h5];simp only[Instr.sliceAt,Instr.slice,Sem.run_bind,run_underlying hu,Result.andThen_ok];rw[Zn (by simp)];simp only[Sem.run_bind,Qr1 (P:=P) (isS:=false) h2 h3 he g4 g5 g6 g7 (Vb _) S.w,Result.andThen_ok,Sem.run_pure]
    . cases h4
  . cases hc
 |ext x' j =>
  simp only[Qag]at hc;split at hc
  . simp only[Va,Zr]at hc;obtain⟨h1,rfl⟩:=hc;simp only[pv]at hs ⊢;simp only[execOp,hop];split at hs
    . rename_i l hl;simp only[];have h4:=(QA h1 he).ug hs.1;rw[hl]at h4;obtain⟨us,h5,h6⟩:=h4.tup_inv;obtain⟨u,h7,h8⟩:=h6.getD hs.2;refine fin _ _ ⟨u,?_,h8⟩;simp[h5,Instr.extract,h7]
    . exact hs.elim
  . cases hc
 |len x' =>
  simp only[Qag]at hc;split at hc
  . rename_i as ts;split at hc
    . rename_i x t ha ht;rw[Va]at hc;obtain⟨h1,h2⟩:=hc;split at h2
      . rename_i el hu;simp only[pv]at hs ⊢;obtain⟨ad,cap,hv⟩:=((QA h1 he).ug hs.1).slen_spec hs.2;refine⟨_,?_,.val _⟩;have ha':as = #[x]:=by rw[<-ha]
        have ht':ts = #[t]:=by rw[<-ht]
        subst ha' ht';simp[execOp,hop,resolve,invoke,builtin,Builtin.len_,run_underlying hu,hv,goInt]
      . cases h2
    . cases hc
  . cases hc
 |lens x' =>
  simp only[Qag]at hc;split at hc
  . rename_i as ts;split at hc
    . rename_i x t ha ht;rw[Va]at hc;obtain⟨h1,h2⟩:=hc;split at h2
      . rename_i hu;have h5:=(QA h1 he).isS hs;refine⟨_,?_,.val _⟩;have ha':as = #[x]:=by rw[<-ha]
        have ht':ts = #[t]:=by rw[<-ht]
        subst ha' ht';simp[execOp,hop,resolve,invoke,builtin,Builtin.len_,run_underlying hu,h5,goInt]
      . cases h2
    . cases hc
  . cases hc
 |mm mx k x' y' =>
  simp only[Qag]at hc;split at hc
  . rename_i b as ts;split at hc
    . rename_i x y ha;rw[Va,Va]at hc;obtain⟨⟨h1,h2⟩,h3⟩:=hc;simp only[pv]at hs ⊢;have h5:=(QA h1 he).isI hs.1;have h6:=(QA h2 he).isI hs.2;have ha':as = #[x,y]:=by rw[<-ha]
      subst ha';refine⟨_,?_,.val _⟩
      cases mx with
      |true =>
       cases b<;>simp at h3
       simp[execOp,hop,resolve,invoke,builtin,Builtin.max_,Builtin.max2,h5,h6];omega
      |false =>
       cases b<;>simp at h3
       simp[execOp,hop,resolve,invoke,builtin,Builtin.min_,Builtin.min2,h5,h6];omega
    . cases hc
  . cases hc
 |mkf f first cap =>
  simp only[Qag]at hc;split at hc
  . rename_i f' x y;rw[Va,Va]at hc;obtain⟨⟨h1,h2⟩,h3⟩:=hc;split at h1
    . simp at h1; subst h1;simp only[pv]at hs ⊢;simp only[execOp,hop];refine fin _ _ ⟨_,?_,VR.fn_of (Qj2 h2 he) (Qj2 h3 he)⟩;rw[QrC,QrC]; rfl
    . cases h1
  . cases hc
 |mki t x' =>
  simp only[Qag]at hc;split at hc
  . rename_i t' x;rw[Va,Va,Zr]at hc;obtain⟨⟨rfl,h2⟩,h3⟩:=hc;simp only[pv]at hs ⊢;simp only[execOp,hop];refine fin _ _ ⟨_,run_makeInterface S.w _ _ ?_,.ifc _ _ _ (QA h2 he)⟩;unfold Program.concrete
    cases hu:P.underlying t' with
    |none=>rw[hu]at h3; cases h3
    |some d=>rw[hu]at h3; cases d<;>simp_all
  . cases hc
 |nck x' =>
  simp only[Qag]at hc;split at hc
  . simp only[pv]at hs ⊢;split at hs
    . rename_i s k hp;simp only[];have h1:=(QA hc he).ug hs;rw[hp]at h1;obtain⟨ad,h2,_⟩:=QlO (off:=0) h1;refine⟨_,?_,h1⟩;simp[execOp,hop,h2]
    . rename_i f x y hp;simp only[];have h1:=(QA hc he).ug hs;rw[hp]at h1;obtain⟨us,vs,hv,h2,h3⟩:=h1.fn_inv;exact⟨.func (.func f) us.toArray vs.toArray,by simp[execOp,hop,hv],VR.fn_of h2 h3⟩
    . exact hs.elim
  . cases hc
 |ifn neg right x' =>
  simp only[Qag]at hc;split at hc
  . rename_i op2 t x y yt;rw[Va,Va,Va]at hc;obtain⟨⟨⟨h1,h2⟩,h3⟩,h4⟩:=hc;simp only[pv]at hs ⊢;obtain⟨g1,g2⟩:=hs;have k1:=(QA h2 he).ug g1;have hu:∃ ms,P.underlying t=some (.interface ms):=by
     unfold ifT at h4;split at h4
     . rename_i ms hu; exact⟨ms,hu⟩
     . cases h4
    obtain⟨ms,hu⟩:=hu;have hlit:(if right=true then y else x)=.const .nilIface:=by
     generalize (if right=true then y else x)=z at h3;split at h3
     . rfl
     . cases h3
    simp only[execOp,hop];have hv:(∃ t' w,a.eval (if right=true then x else y)=.iface t' w/\(e.ev x').ug.ifNil=false)\/(a.eval (if right=true then x else y)=.nilIface/\(e.ev x').ug.ifNil=true):=by
     generalize a.eval (if right=true then x else y)=v at k1;generalize (e.ev x').ug=s at k1 g2
     cases k1 with
     |ifc t' x v h=>exact .inl ⟨t',v,rfl,rfl⟩
     |val v=>cases v<;>simp_all [SV.isIf,SV.ifNil]
     |_=>simp[SV.isIf]at g2
    have q1:∀ (t':ZK) (w:Value),(Op.equal t (.iface t' w) .nilIface).run P S.w=.ok false S.w:=λt' w=>QAv 9999 hu t' w;have q2:∀ (t':ZK) (w:Value),(Op.equal t .nilIface (.iface t' w)).run P S.w=.ok false S.w:=λt' w=>QBq 9999 hu t' w;have q3:(Op.equal t .nilIface .nilIface).run P S.w=.ok true S.w:=Qxk 9999 hu;refine fin _ _ ⟨.bool (if(e.ev x').ug.ifNil=true then !neg else neg),?_,.val _⟩
    cases right with
    |true =>
     simp only[Zs]at hlit hv;subst hlit;have hev:a.eval (.const .nilIface)=.nilIface:=rfl;rw[hev];rcases hv with ⟨t',w,hv,hn⟩|⟨hv,hn⟩
     . rw[hv,hn]
       cases neg<;>simp at h1<;>subst h1<;>simp[eqGuard,binOp,q1]
     . rw[hv,hn]
       cases neg<;>simp at h1<;>subst h1<;>simp[eqGuard,binOp,q3]
    |false =>
     simp only[Zu,Vw]at hlit hv;subst hlit;have hev:a.eval (.const .nilIface)=.nilIface:=rfl;rw[hev];rcases hv with ⟨t',w,hv,hn⟩|⟨hv,hn⟩
     . rw[hv,hn]
       cases neg<;>simp at h1<;>subst h1<;>simp[eqGuard,binOp,q2]
     . rw[hv,hn]
       cases neg<;>simp at h1<;>subst h1<;>simp[eqGuard,binOp,q3]
  . cases hc
 |tas t ok z x' =>
  simp only[Qag]at hc;split at hc
  . rename_i x xt t2 ok2;rw[Va,Va,Va,Va,Zr,Zr]at hc;obtain⟨⟨⟨⟨rfl,rfl⟩,h3⟩,h4⟩,h5⟩:=hc;simp only[pv]at hs ⊢;obtain⟨g1,g2,g3⟩:=hs;have k1:=(QA h3 he).ug g1;simp only[execOp,hop];obtain⟨d,hu,hni⟩:∃ d,P.underlying t2=some d/\∀ ms,d≠.interface ms:=by
     unfold QpN at h5;split at h5
     . cases h5
     . rename_i d hn hd; exact⟨d,hd,λms e=>hn ms e⟩
     . cases h5
    obtain⟨zv,hz,hzv⟩:=QrE (S:=S) h4;generalize a.eval x=v at k1;generalize (e.ev x').ug=s at k1 g2 g3;have nilc:v=.nilIface->s.ifIs t2=false->∃ r,(Instr.typeAssert v xt t2 ok2).run P S.w=.ok r S.w/\VR S (if ok2=true then(if s.ifIs t2=true then .tup [s.ifVal,bl true]else .tup [z,bl false])else s.ifVal) r:=by
     intro hv hn;rw[hn]at g3 ⊢;have hok:ok2=true:=g3.resolve_right (by simp);subst hok hv;refine⟨.tuple #[zv,.bool false],?_,?_⟩
     . simp only[Instr.typeAssert,Sem.run_bind,run_underlying hu,Result.andThen_ok]
       cases d<;>first|exact absurd rfl (hni _)|simp[hz]
     . simp only[Zs,Zu,Vw];exact .tup [z,bl false] [zv,.bool false] rfl (VRs.cons hzv (VRs.cons (.val _) (VRs.nil S))).2
    refine fin _ _ ?_
    cases k1 with
    |ifc t' y w hw =>
     by_cases ht:t'=t2
     . subst ht;simp only[SV.ifIs,SV.ifVal,beq_self_eq_true,Zs]
       cases ok2 with
       |true =>
        refine⟨.tuple #[w,.bool true],?_,?_⟩
        . simp only[Instr.typeAssert,Sem.run_bind,run_underlying hu,Result.andThen_ok]
          cases d<;>first|exact absurd rfl (hni _)|simp
        . exact .tup [y,bl true] [w,.bool true] rfl (VRs.cons hw (VRs.cons (.val _) (VRs.nil S))).2
       |false =>
        refine⟨w,?_,hw⟩;simp only[Instr.typeAssert,Sem.run_bind,run_underlying hu,Result.andThen_ok]
        cases d<;>first|exact absurd rfl (hni _)|simp
     . have hn:(SV.ifc t' y).ifIs t2=false:=by simp[SV.ifIs,ht]
       rw[hn]at g3 ⊢;have hok:ok2=true:=g3.resolve_right (by simp);subst hok;refine⟨.tuple #[zv,.bool false],?_,?_⟩
       . simp only[Instr.typeAssert,Sem.run_bind,run_underlying hu,Result.andThen_ok]
         cases d<;>first|exact absurd rfl (hni _)|simp[hz,ht]
       . simp only[Zs,Zu,Vw];exact .tup [z,bl false] [zv,.bool false] rfl (VRs.cons hzv (VRs.cons (.val _) (VRs.nil S))).2
    |val v=>cases v<;>first|exact nilc rfl rfl|simp[SV.isIf]at g2
    |_=>simp[SV.isIf]at g2
  . cases hc
 |iav sz s j =>
  simp only[Qag]at hc;split at hc
  . rename_i t x ix;simp only[Va]at hc;obtain⟨⟨h1,h2⟩,h3⟩:=hc;simp only[pv]at hs ⊢;simp only[execOp,hop];split at hs
    . rename_i ad len cap hsl;obtain⟨g1,g2,g3,g4⟩:=hs;simp only[];refine fin _ _ ?_;have k1:=(QA h1 he).ug g1;rw[hsl]at k1;obtain⟨k,hv⟩:=(QA h2 he).isN g2;obtain⟨el,hu,hsz⟩:=QnL h3;have hx:a.eval x=.slice (some ad) len cap:=by
       generalize a.eval x=v at k1
       cases k1; rfl
      refine⟨_,?_,.val _⟩;rw[hv,hx];simp[Instr.indexAt,QfC,run_underlying hu,g3,g4,QeA hsz]
    . exact hs.elim
  . cases hc
 |bys x' =>
  simp only[Qag]at hc;split at hc
  . rename_i sT dT x;rw[Va,Va]at hc;obtain⟨⟨h1,h2⟩,h3⟩:=hc;split at h2
    . rename_i hd;split at h3
      . rename_i el hu;split at h3
        . rename_i hel;simp only[pv]at hs ⊢;simp only[execOp,hop];obtain⟨g1,g2,g3⟩:=hs;refine fin _ _ ⟨_,?_,.val _⟩;exact QBz hS ((QA h1 he).ug g1) g2 g3 hu hel hd
        . cases h3
      . cases h3
    . cases h2
  . cases hc
 |lnv x' =>
  simp only[Qag]at hc;split at hc
  . rename_i as ts;split at hc
    . rename_i x t ha ht;rw[Va]at hc;obtain⟨h1,h2⟩:=hc;split at h2
      . rename_i el hu;simp only[pv]at hs ⊢;split at hs
        . rename_i ad len cap hsl;simp only[];have k1:=(QA h1 he).ug hs;rw[hsl]at k1;have hv:a.eval x=.slice ad len cap:=by
           generalize a.eval x=v at k1
           cases k1; rfl
          refine⟨_,?_,.val _⟩;have ha':as = #[x]:=by rw[<-ha]
          have ht':ts = #[t]:=by rw[<-ht]
          subst ha' ht';simp[execOp,hop,resolve,invoke,builtin,Builtin.len_,run_underlying hu,hv,goInt]
        . exact hs.elim
      . cases h2
    . cases hc
  . cases hc
 |lkp kk ok z m' k' =>
  simp only[Qag]at hc;split at hc
  . rename_i t m k ok';rw[Va,Va,Va,Zr]at hc;obtain⟨⟨⟨rfl,h1⟩,h2⟩,h3⟩:=hc;simp only[pv]at hs ⊢
    cases hmo:(e.ev m').ug.mapOf S.H with
    |none=>rw[hmo]at hs; exact hs.elim
    |some x =>
    rw[hmo]at hs;obtain⟨g1,g2,g3,g4⟩:=hs;obtain⟨kt,et,hu,hk,hz,hzz⟩:=Qws h3;obtain⟨zv,hzr,hzv⟩:=QrE (S:=S) hz;have k1:=(QA h1 he).ug g1;obtain⟨k2,k3⟩:=(QA h2 he).isK g2;simp only[execOp,hop];obtain⟨es,hrun,hks,hvs⟩:=QzO hS k1 hmo;rw[hks]at g3 g4;rw[<-k2]at g4;obtain⟨r,hf,hr⟩:=Qx0 (S:=S) hk hzz hS k3 g3 g4 hvs;rw[hks];refine fin _ _ ?_;have hck:=QrL (P:=P) (w:=S.w) hk hzz k3 es.isEmpty;have hfk:=hf;have hlook:∀ (q:Option (Nat×Value)),(Instr.findKey kt (a.eval k) es.toList).run P S.w=.ok q S.w ->
     (Instr.lookup t (a.eval m) (a.eval k) ok').run P S.w=match q with
      |some (_,v)=>.ok (if ok'=true then .tuple #[v,.bool true]else v) S.w
      |none=>.ok (if ok'=true then .tuple #[zv,.bool false]else zv) S.w:=by
     intro q hq;rcases hrun with ⟨hm,rfl⟩|⟨r',cl,hm,hb⟩
     . rw[hm];have hck:(Instr.checkKey true 10000 kt (a.eval k)).run P S.w=.ok () S.w:=hck;have hq:(Instr.findKey kt (a.eval k) []).run P S.w=.ok q S.w:=hq
       cases q with
       |none=>cases ok'<;>simp[Instr.lookup,run_underlying hu,hck,hq,hzr,Result.andThen]
       |some q=>obtain⟨j,v⟩:=q; cases ok'<;>simp[Instr.lookup,run_underlying hu,hck,hq,Result.andThen]
     . rw[hm]
       cases q with
       |none=>cases ok'<;>simp[Instr.lookup,run_underlying hu,Go.MapKept.run_getObj_map hb,hck,hq,hzr,Result.andThen]
       |some q=>obtain⟨j,v⟩:=q; cases ok'<;>simp[Instr.lookup,run_underlying hu,Go.MapKept.run_getObj_map hb,hck,hq,Result.andThen]
    rw[<-k2]
    cases hl:lkm (a.eval k) (es.toList.map (·.key)) x.2 with
    |none =>
     rw[hl]at hr;subst hr;refine⟨_,hlook _ hfk,?_⟩
     cases ok' with
     |true=>exact .tup [z,bl false] [zv,.bool false] rfl (VRs.cons hzv (VRs.cons (.val _) (VRs.nil S))).2
     |false=>exact hzv
    |some s =>
     rw[hl]at hr;obtain⟨j,u,rfl,hsu⟩:=hr;refine⟨_,hlook _ hfk,?_⟩
     cases ok' with
     |true=>exact .tup [s,bl true] [u,.bool true] rfl (VRs.cons hsu (VRs.cons (.val _) (VRs.nil S))).2
     |false=>exact hsu
  . cases hc
 |no=>simp only[pv]at hs
 |kro T sz len z parts=>simp[Qag]at hc
 |bld z parts =>
  simp only[Qag]at hc;split at hc
  . rename_i t ps;simp only[Va]at hc;simp only[pv]at hs ⊢;simp only[execOp,hop];have:=Qwr (ps:=ps.toList) hc.1.1 hc.1.2 hc.2 he hs;refine fin _ _ ?_;have e1:(ps.map λx=>(x.1,a.eval x.2))=(ps.toList.map λp=>(p.1,a.eval p.2)).toArray:=by cases ps; simp
    obtain⟨u,h1,h2⟩:=this;refine⟨u,?_,h2⟩;rw[<-h1,<- e1]
  . cases hc
end
end
end Go.Ab
namespace Go.Ab
section
variable [QR] [QP] [Qv]
inductive E where
 |alc (T:ZK) (z:ZH)
 |box (T:ZK) (x:Od)
 |bsl (T:ZK) (sz len:Nat) (z:ZH) (parts:List (Nat×Od))
 |mks (T:ZK) (sz bytes:Nat) (z:ZH) (len cap:Od)
 |app (T:ZK) (sz bytes:Nat) (s x:Od)
 |st (n:Nat) (p x:Od)
 |stw (ws:List Nat) (n:Nat) (p x:Od)
 |call (f:Od) (args:List Od)
 |nil (T:ZK) (sz:Nat) (x:Od)
 |sby (x:Od)
 |aps (T:ZK) (s x:Od)
 |pan (x:Od)
 |mkm (T:ZK)
 |mup (kk:KK) (m k v:Od)
def Qai (s:ByteArray):ZH:=s.data.toList.map λb=>.val (.int .u8 b.toNat)
def SV.isNil:SV->Bool
 |.val (.slice none 0 0)=>true
 |_=>false
def QD (l:ZH):Prop:=∀ s∈l,s.isCell=true
def SV.els (H:ZG) (sz:Nat) (s:SV):ZH:=(s.row H).take (s.slen*sz)
def setObj (H:ZG) (i:Nat) (f:AO->AO):ZG :=
 match H[i]? with
 |some o=>H.set i (f o)
 |none=>H
def AO.put (o:AO) (off:Nat) (cs:ZH):AO:={ o with cells:=o.cells.take off++cs++o.cells.drop (off+cs.length) }
def AO.grow (o:AO) (cs:ZH):AO:={ o with cells:=o.cells++cs,ver:=o.ver+1 }
def xe (i:E) (g:Od->SV) (H:ZG) (K:SV->ZG->Prop):Prop :=
 match i with
 |.alc T z=>K (.ptr (.own H.length 0 0 0 0) 0) (H++[⟨z,T,0,true⟩])
 |.box T x=>(g x).vd=true/\QD (g x).ug.flat/\K (.ptr (.own H.length 0 0 0 0) 0) (H++[⟨(g x).ug.flat,T,0,true⟩])
 |.bsl T sz len z parts =>
  (∀ p∈parts,QaY sz (g p.2)/\p.1*sz+sz<=len*sz)/\QD (Qbk (List.replicate len z).flatten (parts.map λp=>(p.1*sz,g p.2))) /\
   K (.own H.length 0 len sz 0) (H++[⟨Qbk (List.replicate len z).flatten (parts.map λp=>(p.1*sz,g p.2)),T,0,true⟩])
 |.mks T sz bytes z len cap =>
  (g len).isN=true/\(g cap).isN=true/\0<=(g len).int/\(g len).int<=(g cap).int/\bytes*(g cap).int<=140737488355328/\(g cap).int<=140737488355328 /\
   K (.own H.length 0 (g len).int.toNat sz 0) (H++[⟨(List.replicate (g len).int.toNat z).flatten,T,0,true⟩])
 |.app T sz bytes s x =>
  (g s).vd=true/\(g x).vd=true/\(g x).ug.isSl=true/\(g x).ug.slen*sz<=((g x).ug.row H).length/\QD ((g x).ug.els H sz) /\
   ((g s).ug.slen+(g x).ug.slen)*bytes<=140737488355328/\(g s).ug.slen+(g x).ug.slen<=140737488355328 /\
   match (g s).ug with
   |.own i 0 n sz' ver =>
    sz'=sz/\(∃ o,H[i]? = some o/\o.live=true/\o.ver=ver/\o.ty=T/\o.cells.length=n*sz)/\K (.own i 0 (n+(g x).ug.slen) sz (ver+1)) (setObj H i λo=>o.grow ((g x).ug.els H sz))
   |v=>v.isNil=true/\K (.own H.length 0 (g x).ug.slen sz 1) (H++[⟨(g x).ug.els H sz,T,1,true⟩])
 |.st n p x =>
  (g p).vd=true/\(g x).vd=true/\QD (g x).ug.flat/\(g x).ug.flat.length=n/\0<n /\
   match (g p).ug with
   |.ptr (.own i off _ _ ver) k=>off+k+n<=(Qo H i ver).length/\K (.val undef) (setObj H i λo=>o.put (off+k) (g x).ug.flat)
   |_=>False
 |.stw _ n p x =>
  (g p).vd=true/\(g x).vd=true/\QD (g x).ug.flat/\(g x).ug.flat.length=n/\0<n /\
   match (g p).ug with
   |.ptr (.own i off _ _ ver) k=>off+k+n<=(Qo H i ver).length/\K (.val undef) (setObj H i λo=>o.put (off+k) (g x).ug.flat)
   |_=>False
 |.nil T sz x=>(g x).vd=true/\(g x).ug.isNil=true/\K (.own H.length 0 0 sz 0) (H++[⟨[],T,0,true⟩])
 |.aps T s x =>
  (g s).vd=true/\(g x).isS=true/\(g s).ug.slen+(g x).str.size<=140737488355328 /\
   match (g s).ug with
   |.own i 0 n sz' ver =>
    sz'=1/\(∃ o,H[i]? = some o/\o.live=true/\o.ver=ver/\o.ty=T/\o.cells.length=n*1)/\K (.own i 0 (n+(g x).str.size) 1 (ver+1)) (setObj H i λo=>o.grow (Qai (g x).str))
   |v=>v.isNil=true/\K (.own H.length 0 (g x).str.size 1 1) (H++[⟨Qai (g x).str,T,1,true⟩])
 |.sby x=>(g x).isS=true/\K (.slc (Qai (g x).str) (g x).str.size) H
 |.mkm T=>K (.mp H.length 0) (H++[⟨[.mk []],T,0,false⟩])
 |.mup kk m k v=>(g m).vd=true/\(g k).isK kk=true/\(g v).vd=true /\
  match (g m).ug,(g m).ug.mapOf H with
  |.mp i _,some x=>x.1.all kk.is=true/\(∀ v∈(g k).key kk::x.1,kk.knows v)/\K (.val undef) (setObj H i λo=>{ o with cells:=.mk (Qac ((g k).key kk) x.1)::Qaa ((g k).key kk) (g v).ug x.1 x.2 })
  |_,_=>False
 |_=>False
def QgO (P:ZL) (t:ZK) (sz bytes:Nat):Bool:=match P.info? t with|some i=>i.size==sz&&i.bytes==bytes&&(match i.zero with|some z=>z.cells.size==sz|none=>false)|none=>false
def QgD:List (Nat×Operand)->List (Nat×Od)->Bool
 |[],[]=>true
 | (f,x)::r,(f',y)::s=>f==f'&&Qy x y&&QgD r s
 |_,_=>false
def QgP (P:ZL) (t e:ZK):Bool:=match P.underlying t with|some (.slice e')=>e'==e|_=>false
def Qkj (P:ZL) (t:ZK) (kk:KK):Bool :=
 match P.underlying t with
 |some (.map kt _)=>(match P.underlying kt with
  |some .string=>(match kk with|.s=>true|_=>false)
  |some (.int k)=>(match kk with|.i k'=>decide (k'=k)|_=>false)
  |some .bool=>(match kk with|.b=>true|_=>false)
  |some (.pointer e)=>(match kk with|.p e'=>decide (e'=e)&&(KK.p e').szB P|_=>false)
  |some (.array n t)=>(match kk with|.pp t' e'=>decide (n=2/\t'=t)&&(KK.pp t' e').szB P|_=>false)
  |_=>false)
 |_=>false
def Qbz (P:ZL) (op:Op) (i:E):Bool :=
 match i with
 |.alc T z=>match op with|.alloc T'=>T'==T&&QeL P T z|_=>false
 |.box T x'=>match op with|.box T' x=>T'==T&&Qy x x'|_=>false
 |.bsl T sz len z parts=>match op with|.buildSlice t len' ps=>QgP P t T&&QaO P T sz&&len'==len&&QeL P T z&&z.length==sz&&decide (len*sz<=16777216)&&QgD ps.toList parts|_=>false
 |.mks T sz bytes z len cap=>match op with|.makeSlice t l c=>QgP P t T&&QgO P T sz bytes&&QeL P T z&&z.length==sz&&Qy l len&&Qy c cap|_=>false
 |.app T sz bytes s x=>match op with
  |.call { callee:=.builtin .append,args:=as,argTypes:=ts }=>(match as.toList,ts.toList with
   |[s',x'],[t,t']=>t==t'&&Qy s' s&&Qy x' x&&QgP P t T&&QgO P T sz bytes&&decide (0<sz)
   |_,_=>false)
  |_=>false
 |.st n p x=>match op with|.store t p' x'=>Qy p' p&&Qy x' x&&QaO P t n|_=>false
 |.stw _ n p x=>match op with|.store t p' x'=>Qy p' p&&Qy x' x&&QaO P t n|_=>false
 |.nil _ _ x=>match op with|.move x'|.assign x'=>Qy x' x|_=>false
 |.aps T s x=>match op with
  |.call { callee:=.builtin .append,args:=as,argTypes:=ts }=>(match as.toList,ts.toList with
   |[s',x'],[t,t']=>Qy s' s&&Qy x' x&&QgP P t T&&QgO P T 1 1&&(match P.underlying t' with|some .string=>true|_=>false)
   |_,_=>false)
  |_=>false
 |.sby x=>match op with
  |.convert src dst x'=>Qy x' x&&(match P.underlying src with|some .string=>true|_=>false) &&
   (match P.underlying dst with|some (.slice e)=>(match P.underlying e with|some (.int .u8)=>true|_=>false)|_=>false)
  |_=>false
 |.pan x=>match op with|.panic x'=>Qy x' x|_=>false
 |.mkm T=>match op with
  |.makeMap T' none=>T'==T
  |.makeMap T' (some (.const (.int _ _)))=>T'==T&&(match P.underlying T with|some (.map _ _)=>true|_=>false)
  |_=>false
 |.mup kk m k v=>match op with|.mapUpdate t m' k' v'|.insert t m' k' v'=>Qy m' m&&Qy k' k&&Qy v' v&&Qkj P t kk|_=>false
 |.call f args=>match op with|.call { callee:=.value f',args:=as,argTypes:=_ }=>Qy f' f&&Qfv as.toList args|_=>false
section
variable {P:ZL} {S:St} {e:Env} {a:Act}
theorem Qe8 {t T:ZK} (h:QgP P t T=true):P.underlying t=some (.slice T):=by
 unfold QgP at h;split at h
 . rename_i e' hu; simp at h; subst h; exact hu
 . cases h
theorem QAT {t:ZK} {kk:KK} (h:Qkj P t kk=true):∃ kt et,P.underlying t=some (.map kt et)/\P.underlying kt=some kk.desc/\kk.szB P=true:=by
 unfold Qkj at h;split at h
 . rename_i kt et hu;have key:P.underlying kt=some kk.desc/\kk.szB P=true:=by
    split at h
    . rename_i hk; cases kk<;>simp at h; exact⟨hk,rfl⟩
    . rename_i k hk; cases kk<;>simp at h; subst h; exact⟨hk,rfl⟩
    . rename_i hk; cases kk<;>simp at h; exact⟨hk,rfl⟩
    . rename_i e hk
      cases kk<;>simp at h
      obtain⟨rfl,h2⟩:=h;exact⟨hk,h2⟩
    . rename_i n t' hk
      cases kk<;>simp at h
      obtain⟨⟨rfl,rfl⟩,h2⟩:=h;exact⟨hk,h2⟩
    . cases h
   exact⟨kt,et,hu,key.1,key.2⟩
 . cases h
theorem QrJ {t:ZK} {sz bytes:Nat} (h:QgO P t sz bytes=true):∃ i z,P.info? t=some i/\i.zero=some z/\i.size=sz/\i.bytes=bytes/\z.cells.size=sz:=by
 unfold QgO at h;split at h
 . rename_i i hi;rw[Va,Va,Zr,Zr]at h;obtain⟨⟨h1,h2⟩,h3⟩:=h;split at h3
   . rename_i z hz; exact⟨i,z,hi,hz,h1,h2,by simpa using h3⟩
   . cases h3
 . cases h
theorem QkR (w:ZM) (g:Nat) (cs cur:Array Value) (T:ZK) (f:Nat×Nat) (hg:w.heap[g]? = some (.cells cur T f)) :
 w.setRow g cs={ w with heap:=w.heap.setIfInBounds g (.cells cs T f) }:=by
 unfold World.setRow;congr 1;apply Zc;intro j;rw[Zd,Yh];have hlt:g<w.heap.size:=by
  rcases Vs g w.heap.size with h1|h1
  . exact h1
  . rw[V1 h1]at hg; cases hg
 by_cases h:g=j
 . subst h; rw[Zo rfl,Zo rfl,Zo hlt,hg]; rfl
 . rw[Zn h,Zn h]
theorem VR.els {s:SV} {v:Value} {sz:Nat} (hS:Sim S) (hv:VR S s v) (hs:s.isSl=true) (hl:s.slen*sz<=(s.row S.H).length) :
 ∃ ad cap us,v=.slice ad s.slen cap/\us.length=s.slen*sz/\VRs S (s.els S.H sz) us/\(∀ x,ad=some x->∀ j u,us[j]? = some u->S.w.cell? (x.add j)=some u)/\(ad=none->s.slen=0):=by
 cases hv with
 |slc cells len ad cap us hc hl' hi h =>
  simp only[SV.slen,SV.row,SV.els]at *;refine⟨some ad,cap,us.take (len*sz),rfl,by simp; omega,⟨by simp; omega,?_⟩,?_,λh=>by cases h⟩
  . exact(VRs.take (S:=S) ⟨hl',h⟩ _).2
  . intro x hx j u hj
    cases hx
    rw[VK]at hj;split at hj
    . exact hi.1 j u hj
    . cases hj
 |nilslc=>exact⟨none,0,[],rfl,by simp[SV.slen],by simpa[SV.els,SV.row]using VRs.nil S,λx hx=>by(cases hx),λ_=>rfl⟩
 |own i off len sz' ver ad cap o ho hv hc hz h =>
  simp only[SV.slen,SV.row,SV.els,YF]at *;by_cases h0:len*sz=0
  . refine⟨ad,cap,[],rfl,by simp[h0],?_,λx hx j u hj=>by simp at hj,hz⟩;rw[h0]; simpa using VRs.nil S
  . have hne:off<(Qo S.H i ver).length:=by omega
    obtain⟨o',b,us,rest,u,ho',hl',hv',hρ,hh,hvr,_⟩:=hS.read (Ve hne);rw[ho]at ho'; cases ho'
    have hcells:Qo S.H i ver=o.cells:=by
     unfold Qo; rw[ho]; simp[hl',hv']
    rw[hcells]at hl hne ⊢;have h2:=h hv';unfold St.OwnAt at h2;rw[hρ]at h2;have hlen0:len≠0:=λe=>h0 (by simp[e]);have had:ad=some ⟨b,off,none⟩:=by
     rcases h2 with h2|h2
     . omega
     . exact h2.1
    subst had;have hvd:=(hvr.drop off).take (len*sz);refine⟨_,cap,(us.drop off).take (len*sz),rfl,?_,hvd,?_,hz⟩
    . have:=hvr.1; simp; omega
    . intro x hx j u hj
      cases hx
      rw[VK]at hj;split at hj
      . rw[VW]at hj;have hadd:(⟨b,off,none⟩:Addr).add j=⟨b,off+j,none⟩:=by unfold Addr.add; split<;>simp_all
        rw[hadd];unfold World.cell?;simp only[hh,Yq,Vw,Zu];have:off+j<us.length:=Ql hj;simp[Vc this,hj]
      . cases hj
 |val v =>
  have:v=.slice none 0 0:=by cases v<;>simp[SV.isSl]at hs; rename_i a b c; revert hs; cases a<;>cases b<;>cases c<;>simp
  subst this;exact⟨none,0,[],rfl,by simp[SV.slen],by simpa[SV.els,SV.row,SV.slen]using VRs.nil S,λx hx=>by(cases hx),λ_=>rfl⟩
 |_=>simp[SV.isSl]at hs
theorem VRs.oneCells {l:ZH} {us:ZI} (h:VRs S l us) (hc:QD l):∀ u∈us,u.oneCell'=true:=by
 intro u hu;obtain⟨j,hj⟩:=Vy hu;have hlt:j<l.length:=by rw[<-h.1]; exact Ql hj
 exact(h.2 j _ u (Ve hlt) hj).oneCell (hc _ (Vt hlt))
theorem VRs.unders {l:ZH} {us:ZI} (h:VRs S l us) (hc:QD l):∀ s∈l,s.under S.H.length=true/\s.isCell=true:=by
 intro s hs;obtain⟨j,hj⟩:=Vy hs;obtain⟨u,_,hv⟩:=h.get hj;exact⟨hv.under,hc s hs⟩
theorem VR.flat {s:SV} {v:Value} (h:VR S s v) (hc:QD s.flat):∃ us,v.cells=us.toArray/\VRs S s.flat us:=by
 cases h with
 |agg l us hl h=>exact⟨us,rfl,hl,h⟩
 |val v =>
  refine⟨[v],?_,VRs.cons (.val v) (VRs.nil S)⟩;have h1:=hc (.val v) (by simp[SV.flat]);simp only[SV.isCell]at h1
  cases v<;>simp_all [Value.cells,Value.oneCell']
 |any v=>have:=hc .any (by simp[SV.flat]); simp[SV.isCell]at this
 |gd b x v h0 h=>have:=hc (.gd b x) (by simp[SV.flat]); simp[SV.isCell]at this
 |nilslc=>exact⟨[_],rfl,VRs.cons .nilslc (VRs.nil S)⟩
 |slc cells len a cap us hc' hl hi h=>exact⟨[_],rfl,VRs.cons (.slc cells len a cap us hc' hl hi h) (VRs.nil S)⟩
 |own i off len sz ver a cap o ho hv hc' hz h=>exact⟨[_],rfl,VRs.cons (.own i off len sz ver a cap o ho hv hc' hz h) (VRs.nil S)⟩
 |ptrI cells len k a us hl hi h=>exact⟨[_],rfl,VRs.cons (.ptrI cells len k a us hl hi h) (VRs.nil S)⟩
 |ptrO i off len sz ver k a o ho hv h=>exact⟨[_],rfl,VRs.cons (.ptrO i off len sz ver k a o ho hv h) (VRs.nil S)⟩
 |tup l us hl h=>have:=hc (.tup l) (by simp[SV.flat]); simp[SV.isCell]at this
 |fn f x y us vs hl h hl' h'=>exact⟨[_],rfl,VRs.cons (.fn f x y us vs hl h hl' h') (VRs.nil S)⟩
 |ifc t x v h=>exact⟨[_],rfl,VRs.cons (.ifc t x v h) (VRs.nil S)⟩
 |yl i l o ho h=>have:=hc (.yl i) (by simp[SV.flat]); simp[SV.isCell]at this
 |mp i ver l o ho hv h=>exact⟨[_],rfl,VRs.cons (.mp i ver l o ho hv h) (VRs.nil S)⟩
 |mpf vs l es cl us hb hn hu hl h=>exact⟨[_],rfl,VRs.cons (.mpf vs l es cl us hb hn hu hl h) (VRs.nil S)⟩
end
end
section
variable [QR] [QP] [Qv]
section
variable {P:ZL} {S:St} {e:Env} {a:Act}
def Eff (P:ZL) (S:St) (a:Act) (o:Oper) (K:SV->ZG->Prop):Prop :=
 ∃ nv S' sv,((execOp a.eval o).run P S.w=.ok (.value nv) S'.w\/((execOp a.eval o).run P S.w=.ok .skip S'.w/\nv=undef)) /\
  Ext S.H.length S S'/\Sim S'/\VR S' sv nv/\K sv S'.H
theorem Qsp (S:St) (cells:ZH) (T:ZK) (us rest:ZI):(S.new cells T 0 us rest).H[S.H.length]? = some ⟨cells,T,0,true⟩:=by simp[St.new]
theorem Qp8 (hS:Sim S) {cells:ZH} {T:ZK} {us:ZI} (hv:VRs S cells us) (hc:QD cells) {o:Oper} {K:SV->ZG->Prop}
 (hrun:(execOp a.eval o).run P S.w=.ok (.value (.pointer (some ⟨S.w.heap.size,0,none⟩))) (S.w.alloc (.cells us.toArray T)))
 (hK:K (.ptr (.own S.H.length 0 0 0 0) 0) (S.H++[⟨cells,T,0,true⟩])):Eff P S a o K:=by
 refine⟨.pointer (some ⟨S.w.heap.size,0,none⟩),S.new cells T 0 us [],_,.inl ?_,QnO S hS _ _ _ _ _,Qt1 hS T 0 [] hv (hv.unders hc),?_,hK⟩
 . rw[hrun]; simp[St.new]
 . exact .ptrO _ _ _ _ _ _ _ _ (Qsp S cells T us []) (Vb _) λ_=>⟨S.w.heap.size,by simp[St.new,QaZ],rfl⟩
theorem QsJ (hS:Sim S) {cells:ZH} {T:ZK} {us rest:ZI} {len cap sz:Nat} (hv:VRs S cells us) (hc:QD cells) {o:Oper} {K:SV->ZG->Prop}
 (hlc:len<=cap) (hsz:cap*sz<=(us++rest).length)
 (hrun:(execOp a.eval o).run P S.w=.ok (.value (.slice (some ⟨S.w.heap.size,0,none⟩) len cap)) (S.w.alloc (.cells (us++rest).toArray T)))
 (hK:K (.own S.H.length 0 len sz 0) (S.H++[⟨cells,T,0,true⟩])):Eff P S a o K:=by
 refine⟨.slice (some ⟨S.w.heap.size,0,none⟩) len cap,S.new cells T 0 us rest,_,.inl ?_,QnO S hS _ _ _ _ _,Qt1 hS T 0 rest hv (hv.unders hc),?_,hK⟩
 . rw[hrun]; simp[St.new]
 . refine .own _ _ _ _ _ _ _ _ (Qsp S cells T us rest) (Vb _) hlc (λh=>by cases h) λ_ => ?_;simp only[St.OwnAt,St.new,QaZ];refine .inr ⟨trivial,T,(us++rest).length,?_,by omega⟩;unfold World.shape?;rw[Qfd];simp
theorem Qb5 {H:ZG} {i:Nat} {o:AO} (h:H[i]? = some o) (f:AO->AO):setObj H i f=H.set i (f o):=by unfold setObj; rw[h]
theorem QqW:∀ {ps:List (Nat×Operand)} {qs:List (Nat×Od)},QgD ps qs=true->QJ S e a.tmps ->
 ps.length=qs.length/\∀ (j:Nat) (p:Nat×Operand) (q:Nat×Od),ps[j]? = some p->qs[j]? = some q->p.1=q.1/\VR S (e.ev q.2) (a.eval p.2)
 |[],[],_,_=>⟨rfl,λj p q h=>by simp at h⟩
 |[],_::_,h,_=>by simp[QgD]at h
 |_::_,[],h,_=>by simp[QgD]at h
 | (f,x)::ps,(f',y)::qs,h,he=>by
  simp only[QgD,Va,Zr]at h;obtain⟨h1,h2⟩:=QqW h.2 he;refine⟨by simp[h1],?_⟩;intro j p q hp hq
  cases j with
  |zero=>simp at hp hq; subst hp hq; exact⟨h.1.1,QA h.1.2 he⟩
  |succ j=>exact h2 j p q (by simpa using hp) (by simpa using hq)
theorem Qur {z:ZI} (hz:0<z.length) (n j:Nat):(List.replicate n z).flatten[j]? = if j<n*z.length then z[j % z.length]? else none:=by
 induction n generalizing j with
 |zero=>simp
 |succ n ih =>
  rw[Ze,YV,Y8];by_cases h:j<z.length
  . rw[Zo h,Zo (by rw[YG]; omega),Nat.mod_eq_of_lt h]
  . rw[Zn h,ih];have e1:(j-z.length) % z.length=j % z.length:=by
     rw[<-Nat.mod_eq_sub_mod (by omega)]
    have e2:(j-z.length<n*z.length)↔(j<(n+1)*z.length):=by rw[YG]; omega
    simp only[e1,e2]
theorem QqR {z:ZI} (n:Nat):madeCells z.toArray (n*z.length)=(List.replicate n z).flatten.toArray:=by
 apply Ys;simp only[madeCells,Array.toList_map,Array.toList_range];apply V5;intro j;by_cases hz:0<z.length
 . rw[Qur hz,Vp];by_cases h:j<n*z.length
   . rw[Zo h,YC h];have h2:j % z.length<z.length:=Nat.mod_lt _ hz;simp[h2]
   . rw[Zn h,VP (by simp; omega)]; rfl
 . have hz0:z=[]:=by cases z with|nil=>rfl|cons _ _=>simp at hz
   subst hz0;simp

theorem VRs.zeros {z:ZH} {us:ZI} (h:VRs S z us) (n:Nat):VRs S (List.replicate n z).flatten (List.replicate n us).flatten:=by
 induction n with
 |zero=>simpa using VRs.nil S
 |succ n ih=>rw[Ze,Ze,YV,YV]; exact h.append ih
theorem QBM {z:ZH} (h:QD z) (n:Nat):QD (List.replicate n z).flatten:=by
 intro s hs;simp only[List.mem_flatten,List.mem_replicate]at hs;obtain⟨l,⟨_,rfl⟩,hs⟩:=hs;exact h s hs
theorem Qg1 {α:Type} (z:List α) (n:Nat):(List.replicate n z).flatten.length=n*z.length:=by simp
end
end
section
variable [QR] [QP] [Qv]
section
variable {P:ZL} {S:St} {e:Env} {a:Act}
def E.isCall:E->Bool
 |.call _ _=>true
 |.pan _=>true
 |_=>false
theorem Qav {H:ZG} {i:Nat} {o:AO} (ho:H[i]? = some o) (hl:o.live=true):Qo H i o.ver=o.cells:=by
 unfold Qo; rw[ho]; simp[hl]
theorem AO.grow_eq {o:AO} (h:o.live=true) (cs:ZH):o.grow cs=⟨o.cells++cs,o.ty,o.ver+1,true⟩:=by cases o; simp[AO.grow]at *; exact h
theorem VR.own_inv {i off n sz ver:Nat} {v:Value} {o:AO} (h:VR S (.own i off n sz ver) v) (ho:S.H[i]? = some o) (hv:o.ver=ver) :
 ∃ ad cap,v=.slice ad n cap/\n<=cap/\(ad=none->n=0)/\S.OwnAt i off n sz ad cap:=by
 cases h with
 |own _ _ _ _ _ ad cap o' ho' hvl hcap hz hat =>
  rw[ho]at ho'; cases ho'
  exact⟨ad,cap,rfl,hcap,hz,hat hv⟩
theorem Qtd (a:Act) (v:Value):a.eval (.const v)=v:=rfl
theorem VR.isNil {s:SV} {v:Value} (h:VR S s v) (hs:s.isNil=true):v=.slice none 0 0:=by
 unfold SV.isNil at hs;split at hs
 . cases h; rfl
 . cases hs
theorem QrK (l:ZI) (z:Array Value):l.toArray++z=(l++z.toList).toArray:=by apply Ys; simp
theorem Qqf (z:Array Value) (n:Nat):(Builtin.zeroCells z n).toList.length=n*z.size:=by simp[Builtin.zeroCells]
theorem QAa (w:ZM) (t tx ty e:ZK) (i:TypeInfo) (ht:P.underlying t=some (.slice e)) (hi:P.info? e=some i)
 (g sLen sCap:Nat) (cur:Array Value) (hg:w.heap[g]? = some (.cells cur e (0,0))) (x:Value) (m:Nat) (news:ZI) (hs:Src P i.size tx x m news w)
 (hroom:sLen+m<=sCap) (hfit:sLen*i.size+news.length<=cur.size) :
 (Builtin.append_ #[t,tx] ty #[.slice (some ⟨g,0,none⟩) sLen sCap,x]).run P w =
  .ok (.slice (some ⟨g,0,none⟩) (sLen+m) sCap) (w.setRow g (cur.toList.take (sLen*i.size)++news++cur.toList.drop (sLen*i.size+news.length)).toArray):=by
 have hst:=run_storeCells_at P g (sLen*i.size) e news 0 cur w hg (by simpa using hfit) hs.one;simp only[V6]at hst;rcases hs.kind with ⟨e',hk⟩|hk<;>simp[Builtin.append_,run_underlying ht,run_underlying hk,sizeOf,typeInfo,hi,hs.len,hroom,hs.cells,Addr.add_lit,hst]
theorem Qp5 {sz:Nat} {t T:ZK} (hu:P.underlying t=some (.slice T)) {w:ZM} {adx:ZJ} {m capx:Nat} {news:ZI} (hx2:news.length=m*sz)
 (hx4:∀ x,adx=some x->∀ j u,news[j]? = some u->w.cell? (x.add j)=some u) (hx5:adx=none->m=0) (h1:∀ u∈news,u.oneCell'=true):Src P sz t (.slice adx m capx) m news w:=by
 cases adx with
 |none =>
  have h0:=hx5 rfl;subst h0;have:news=[]:=VJ (by rw[hx2]; simp);subst this;exact Src.ofNil w hu capx
 |some a=>exact Src.ofSlice w hu a m capx news hx2 (hx4 a rfl) h1
theorem Qj7 (hS:Sim S) {t t2 T ty:ZK} {sz bytes:Nat} (hu:P.underlying t=some (.slice T)) (hinf:QgO P T sz bytes=true)
 {i0 n ver:Nat} {ob:AO} (ho:S.H[i0]? = some ob) (hl:ob.live=true) (hver:ob.ver=ver) (hty:ob.ty=T) (hlen:ob.cells.length=n*sz)
 {ads:ZJ} {cap:Nat} (hcap:n<=cap) (hz:ads=none->n=0) (h6:S.OwnAt i0 0 n sz ads cap)
 {xv:Value} {m:Nat} {news:ZI} {xs:ZH} (hsr:Src P sz t2 xv m news S.w) (hx3:VRs S xs news) (g5:QD xs)
 (g6:(n+m)*bytes<=140737488355328) (g7:n+m<=140737488355328) :
 ∃ v' S',(Builtin.append_ #[t,t2] ty #[.slice ads n cap,xv]).run P S.w=.ok v' S'.w/\Ext S.H.length S S'/\Sim S' /\
  VR S' (.own i0 0 (n+m) sz (ver+1)) v'/\S'.H=S.H.set i0 (ob.grow xs):=by
 obtain⟨i,zv,hi,hzv,hsz,hby,hzs⟩:=QrJ hinf;have hsr':Src P i.size t2 xv m news S.w:=by rw[hsz]; exact hsr
 have hx2:=hsr.newsLen;have hone:=hx3.oneCells g5;have hlt:i0<S.H.length:=Ql ho;have hself:∀ q:AO,(S.H.set i0 q)[i0]? = some q:=λq=>Vo hlt;have hgrow:∀ s∈(ob.cells++xs),s.under S.H.length=true/\s.isCell=true:=by
  intro s hs;simp only[Vq]at hs;rcases hs with hs|hs
  . exact hS.belL ho hl s hs
  . exact hx3.unders g5 s hs
 rw[AO.grow_eq hl];unfold St.OwnAt at h6
 cases hρ:S.ρ i0 with
 |none =>
  rw[hρ]at h6;obtain⟨rfl,rfl⟩:=h6;have hcl:ob.cells=[]:=VJ (by simpa using hlen);by_cases hm0:m=0
  . subst hm0;have hxs:xs=[]:=VJ (by rw[<-hx3.1,hx2]; simp);subst hxs;have hn0:news=[]:=VJ (by rw[hx2]; simp);rw[hn0]at hsr';have hr:=run_append_nothing (P:=P) S.w t t2 ty T i hu hi ads 0 0 (Vb _) xv hsr';have hext:Ext S.H.length S ⟨S.ρ,S.H.set i0 ⟨ob.cells++[],ob.ty,ob.ver+1,true⟩,S.w⟩:=by
     refine⟨λj p hj hp => ?_,λk hk hn=>⟨rfl,?_⟩,Vb _,λ_ _ _ h=>h,λ_ r h=>⟨r,h⟩,rfl,rfl,rfl⟩
     . by_cases hij:j=i0
       . subst hij;rw[ho]at hp; cases hp
         exact⟨_,hself _,by simp,λ_=>rfl⟩
       . exact⟨p,by show(S.H.set i0 _)[j]? = _; rw[Vf (by omega)]; exact hp,Vb _,λ_=>rfl⟩
     . rintro⟨j,p,hp,hpl,hpρ⟩;by_cases hij:j=i0
       . simp only at hpρ; rw[hij,hρ]at hpρ; cases hpρ
       . simp only at hp; rw[Vf (by omega)]at hp; exact hn ⟨j,p,hp,hpl,hpρ⟩
    refine⟨.slice ads 0 0,⟨S.ρ,S.H.set i0 ⟨ob.cells++[],ob.ty,ob.ver+1,true⟩,S.w⟩,hr,hext,?_,?_,rfl⟩
    . refine hS.step hext (by simp) ?_ ?_
      . intro j p hp;by_cases hij:j=i0
        . subst hij;simp only[hself]at hp; cases hp
          refine .inr ⟨λ_=>by simp only[hρ]; simp[hcl],λs hs => ?_,λe=>by cases e⟩;exact⟨by simpa using (hgrow s hs).1,λ_=>(hgrow s hs).2⟩
        . exact .inl ⟨by simp only at hp; rw[Vf (by omega)]at hp; exact hp,rfl,λ_ _ _=>rfl⟩
      . intro j k p q b' hj hk hjl hkl hρj hρk;have key:∀ (j:Nat) (p:AO),(S.H.set i0 ⟨ob.cells++[],ob.ty,ob.ver+1,true⟩)[j]? = some p->S.ρ j=some b'->S.H[j]? = some p:=by
         intro j' p' hp' hq';by_cases hij:j'=i0
         . rw[hij,hρ]at hq'; cases hq'
         . rw[Vf (by omega)]at hp'; exact hp'
        exact hS.inj j k p q b' (key j p hj hρj) (key k q hk hρk) hjl hkl hρj hρk
    . refine .own i0 0 0 sz _ ads 0 _ (hself _) (by simp[hver]) (Vb _) (λ_=>rfl) λ_ => ?_;simp[St.OwnAt,hρ]
  . simp only[Ya]at g6 g7;have hf0:(Builtin.firstCells i.size 0 (.slice ads 0 0)).run P S.w.drew=.ok (([]:ZI).toArray) S.w.drew:=by cases ads<;>simp[Builtin.firstCells,loadCells,loadCellsFrom]
    have hr:(Builtin.append_ #[t,t2] ty #[.slice ads 0 0,xv]).run P S.w =
     .ok (.slice (some ⟨S.w.heap.size,0,none⟩) m (grownCap S.w m 0 T)) (S.w.drew.alloc (.cells (news.toArray++Builtin.zeroCells zv.cells (grownCap S.w m 0 T-m)) T)):=by
     have:=run_append_grow_src (P:=P) S.w t t2 ty T i zv hu hi hzv ads 0 0 [] hf0 xv m news hsr' (by omega) (by omega) (growslice_fits (by omega) (by rw[hby]; simpa using g6));simp only[Ya,VA]at this;exact this
    generalize hg:grownCap S.w m 0 T=gc at hr;have hge:m<=gc:=by rw[<-hg]; exact grownCap_ge _ _ _ _
    have hS':=QnM hS (w':=S.w.drew) rfl rfl rfl rfl;have hE':=Qkh (S:=S) (w':=S.w.drew) rfl rfl rfl rfl;have hmv:=QtC hS' (i:=i0) (o:=ob) (o':=⟨ob.cells++xs,ob.ty,ob.ver+1,true⟩) (us:=news) (Builtin.zeroCells zv.cells (gc-m)).toList ho (by simp) rfl
     (by simp only[hcl,VA]; exact hx3.ext hE') hgrow
    have hme:=Qnk (S:=⟨S.ρ,S.H,S.w.drew⟩) (i:=i0) (o:=ob) (o':=⟨ob.cells++xs,ob.ty,ob.ver+1,true⟩) (us:=news) (rest:=(Builtin.zeroCells zv.cells (gc-m)).toList) ho (by simp);refine⟨.slice (some ⟨S.w.heap.size,0,none⟩) m gc,_,hr.trans ?_,hE'.trans hme,hmv,?_,rfl⟩
    . rw[QrK,<- hty]; rfl
    . simp only[Ya];refine .own i0 0 _ sz _ _ _ _ (hself _) (by simp[hver]) hge (λh=>by cases h) λ_ => ?_;simp only[St.OwnAt,St.move,QaZ];refine .inr ⟨rfl,T,(news++(Builtin.zeroCells zv.cells (gc-m)).toList).length,?_,?_⟩
      . unfold World.shape?;have h9:=Qfd S.w.drew (.cells (news++(Builtin.zeroCells zv.cells (gc-m)).toList).toArray ob.ty);simp only[World.size_drew]at h9 ⊢;rw[h9]; simp[hty]
      . simp only[Vj,hx2,Qqf,hzs];rw[<-Yb];have:m+(gc-m)=gc:=by omega
        rw[this]; simp
 |some b =>
  have h7:=hS.live i0 ob ho hl;rw[hρ]at h7 h6;obtain⟨us,rest,hh,hvr⟩:=h7;have hblt:b<S.w.heap.size:=hS.lt ⟨i0,ob,ho,AO.own_live hl,hρ⟩;have husl:us.length=n*sz:=by rw[hvr.1,hlen]
  by_cases hroom:n+m<=cap
  . -- there is room
    by_cases hm0:m=0
    . subst hm0;have hxs:xs=[]:=VJ (by rw[<-hx3.1,hx2]; simp);subst hxs;have hn0:news=[]:=VJ (by rw[hx2]; simp);rw[hn0]at hsr';have hr:=run_append_nothing (P:=P) S.w t t2 ty T i hu hi ads n cap hcap xv hsr';obtain⟨hs1,hs2⟩:=Qhx hS (cells:=ob.cells++[]) (ver:=ob.ver+1) ho hl hρ (by omega) (us:=us) (rest:=rest) hh (by simp) (by simpa using hvr) hgrow (w':=S.w) (by
       have:S.w.heap.setIfInBounds b (.cells (us++rest).toArray ob.ty (0,0))=S.w.heap:=by
        apply Zc;intro j;rw[Yh];by_cases h:b=j
        . subst h; rw[Zo rfl,Zo hblt,hh]
        . rw[Zn h]
       rw[this])
      refine⟨.slice ads n cap,⟨S.ρ,S.H.set i0 ⟨ob.cells++[],ob.ty,ob.ver+1,true⟩,S.w⟩,hr,hs2,hs1,?_,rfl⟩;refine .own i0 0 _ sz _ ads cap _ (hself _) (by simp[hver]) (by omega) (by simpa using hz) λ_ => ?_;simpa[St.OwnAt,hρ]using h6
    . rcases h6 with h6|⟨h6,T',N,h8,h9⟩
      . omega
      subst h6;have hN:N=us.length+rest.length:=by
       unfold World.shape? at h8; rw[hh]at h8; simp at h8; omega
      have hfit:n*sz+m*sz<=us.length+rest.length:=by
       have:(n+m)*sz<=cap*sz:=YW _ hroom;rw[Yb]at this; omega
      have hr:=QAa (P:=P) S.w t t2 ty T i hu hi b n cap (us++rest).toArray (by rw[<-hty]; exact hh) xv m news hsr' hroom
       (by rw[hx2,hsz]; simpa using hfit)
      rw[QkR S.w b _ _ ob.ty (0,0) hh]at hr;have hcells:((us++rest).toArray.toList.take (n*i.size)++news++(us++rest).toArray.toList.drop (n*i.size+news.length))=(us++news)++rest.drop (m*sz):=by
       rw[hsz,<- husl,hx2];simp[YH]
      rw[hcells]at hr;obtain⟨hs1,hs2⟩:=Qhx hS (cells:=ob.cells++xs) (ver:=ob.ver+1) ho hl hρ (by omega) (us:=us++news) (rest:=rest.drop (m*sz)) hh (by simp[hx2]; omega) (hvr.append hx3) hgrow (w':=_) rfl;refine⟨_,_,hr,hs2,hs1,?_,rfl⟩;refine .own i0 0 _ sz _ _ cap _ (hself _) (by simp[hver]) hroom (λh=>by cases h) λ_ => ?_;simp only[St.OwnAt,hρ];exact .inr ⟨trivial,T',N,hs2.shape _ _ _ h8,h9⟩
  . -- a new row
    have hm0:m≠0:=by omega
    have holds:∀ j v,us[j]? = some v->S.w.cell? ((⟨b,0,none⟩:Addr).add j)=some v:=by
     intro j v hj;have hadd:(⟨b,0,none⟩:Addr).add j=⟨b,j,none⟩:=by unfold Addr.add; split<;>simp_all
     rw[hadd];unfold World.cell?;simp only[hh,Yq,Vw,Zu];simp[Vc (Ql hj),hj]
    have hr:∃ bb:Addr,(ads=some bb/\∀ j v,us[j]? = some v->S.w.cell? (bb.add j)=some v)\/ads=none:=by
     cases ads with
     |none=>exact⟨default,.inr rfl⟩
     |some bb =>
      refine⟨bb,.inl ⟨rfl,?_⟩⟩;rcases h6 with h6|⟨h6,_⟩
      . have:n=0:=by omega
        subst this;have:us=[]:=VJ (by simpa using husl);subst this;intro j v hj; simp at hj
      . cases h6; exact holds
    have hrun:∃ gc,n+m<=gc/\(Builtin.append_ #[t,t2] ty #[.slice ads n cap,xv]).run P S.w =
     .ok (.slice (some ⟨S.w.heap.size,0,none⟩) (n+m) gc) (S.w.drew.alloc (.cells ((us++news)++(Builtin.zeroCells zv.cells (gc-(n+m))).toList).toArray T)):=by
     have hfc:(Builtin.firstCells i.size n (.slice ads n cap)).run P S.w.drew=.ok us.toArray S.w.drew:=by
      obtain⟨bb,hr|hr⟩:=hr
      . obtain⟨rfl,hol⟩:=hr;exact run_firstCells_some S.w.drew i.size n bb n cap us (by rw[husl,hsz]) (by simpa using hol)
      . subst hr;have:n=0:=hz rfl;subst this;have hus:us=[]:=VJ (by simpa using husl);subst hus;exact run_firstCells_none S.w.drew i.size 0 0 cap
     refine⟨grownCap S.w (n+m) cap T,grownCap_ge _ _ _ _,?_⟩;rw[run_append_grow_src (P:=P) S.w t t2 ty T i zv hu hi hzv ads n cap us hfc xv m news hsr' (by omega) (by omega) (growslice_fits (by omega) (by rw[hby]; exact g6)),QrK]
    obtain⟨gc,hge,hrun⟩:=hrun;have hS':=QnM hS (w':=S.w.drew) rfl rfl rfl rfl;have hE':=Qkh (S:=S) (w':=S.w.drew) rfl rfl rfl rfl;have hmv:=QtC hS' (i:=i0) (o:=ob) (o':=⟨ob.cells++xs,ob.ty,ob.ver+1,true⟩) (us:=us++news) (Builtin.zeroCells zv.cells (gc-(n+m))).toList ho (by simp) rfl
     ((hvr.append hx3).ext hE') hgrow
    have hme:=Qnk (S:=⟨S.ρ,S.H,S.w.drew⟩) (i:=i0) (o:=ob) (o':=⟨ob.cells++xs,ob.ty,ob.ver+1,true⟩) (us:=us++news) (rest:=(Builtin.zeroCells zv.cells (gc-(n+m))).toList) ho (by simp);refine⟨.slice (some ⟨S.w.heap.size,0,none⟩) (n+m) gc,_,hrun.trans ?_,hE'.trans hme,hmv,?_,rfl⟩
    . simp[St.move,hty]
    . refine .own i0 0 _ sz _ _ _ _ (hself _) (by simp[hver]) hge (λh=>by cases h) λ_ => ?_;simp only[St.OwnAt,St.move,QaZ];refine .inr ⟨rfl,T,((us++news)++(Builtin.zeroCells zv.cells (gc-(n+m))).toList).length,?_,?_⟩
      . unfold World.shape?;have h9:=Qfd S.w.drew (.cells ((us++news)++(Builtin.zeroCells zv.cells (gc-(n+m))).toList).toArray ob.ty);simp only[World.size_drew]at h9 ⊢;rw[h9]; simp[hty]
      . simp only[Vj,hx2,husl,Qqf,hzs];rw[<-Yb,<- Yb];have:n+m+(gc-(n+m))=gc:=by omega
        rw[this]; simp
theorem Qq4 (o:Obj):Ext S.H.length S ⟨S.ρ,S.H,S.w.drew.alloc o⟩ where
 obj:=λi p _ h=>⟨p,h,Vb _,λ_=>rfl⟩
 imm:=λk hk hn=>⟨Qbt _ _ hk,hn⟩
 size:=by simp
 shape:=λk T m h=>Qht _ _ h
 loops:=λk r h=>QiN _ _ h
 os:=rfl
 tape:=rfl
 output:=rfl
theorem QAl (h:Sim S) (o:Obj):Sim ⟨S.ρ,S.H,S.w.drew.alloc o⟩ :=
 h.step (Qq4 o) (Vb _) (λi p hp=>.inl ⟨hp,rfl,λb hb hl=>Qbt _ _ (h.lt ⟨i,p,hp,hl,hb⟩)⟩) λi j o o' b hi hj hl hl' h1 h2=>h.inj i j o o' b hi hj hl hl' h1 h2
theorem Qwx (hS:Sim S) (s:ByteArray) (cap:Nat) (T:ZK) (f:Nat×Nat) (hc:s.size<=cap):Ext S.H.length S ⟨S.ρ,S.H,S.w.drew.alloc (.cells (bytesRow s cap) T f)⟩/\Sim ⟨S.ρ,S.H,S.w.drew.alloc (.cells (bytesRow s cap) T f)⟩ /\
 VR ⟨S.ρ,S.H,S.w.drew.alloc (.cells (bytesRow s cap) T f)⟩ (.slc (Qai s) s.size) (.slice (some ⟨S.w.heap.size,0,none⟩) s.size cap):=by
 refine⟨Qq4 _,QAl hS _,.slc _ _ _ _ (s.data.toList.map λb=>.int .u8 b.toNat) hc (by simp[Qai]) ⟨?_,λ_ hrw => ?_,λ_ _=>.inr (by rw[Vn]; intro u hu; obtain⟨b,_,rfl⟩:=Vx.1 hu; rfl)⟩ ?_⟩
 . intro j u hj;rw[Vp,VY]at hj;obtain⟨b,hb,rfl⟩:=hj;have hlt:j<s.data.size:=by have:=Ql hb; simpa using this
   have h1:=bytesRow_at s cap j hlt;have h2:=Qfd S.w.drew (.cells (bytesRow s cap) T f);have hb':s.data[j]=b:=by
    have h3:s.data[j]? = some b:=by simpa using hb
    rw[VZ hlt]at h3; exact Option.some.inj h3
   rw[hb']at h1;have e:((⟨S.w.heap.size,0,none⟩:Addr).add j)=⟨S.w.heap.size,j,none⟩:=by simp[Addr.add]; exact λh=>h.symm
   rw[e];unfold World.cell?;rw[show S.w.drew.heap.size=S.w.heap.size from rfl]at h2;simp only[h2];exact h1
 . obtain⟨i,o,ho,hl,hρ⟩:=hrw;have:S.w.heap.size<S.w.heap.size:=hS.lt ⟨i,o,ho,hl,hρ⟩;omega
 . intro j u v h1 h2;simp only[Qai,Vp,VY]at h1 h2;obtain⟨b,hb,rfl⟩:=h1;obtain⟨b',hb',rfl⟩:=h2;rw[hb]at hb'; cases hb'
   exact .val _
theorem Qtv (hS:Sim S) (he:QJ S e a.tmps) {o:Oper} {i:E} (hc:Qbz P o.op i=true) (hcall:i.isCall=false) {K:SV->ZG->Prop} (hs:xe i e.ev S.H K) :
 Eff P S a o K:=by
 generalize hop:o.op=op at hc
 cases i with
 |alc T z =>
  simp only[Qbz]at hc;split at hc
  . rw[Va,Zr]at hc;obtain⟨rfl,hz⟩:=hc;obtain⟨zv,hrun,hv,hcl⟩:=Qj8 (S:=S) hz;refine Qp8 hS hv (λs h=>(hcl s h).1) ?_ hs;simp[execOp,hop,Instr.alloc,hrun,newVar,newRow]
  . cases hc
 |box T x' =>
  simp only[Qbz]at hc;split at hc
  . rw[Va,Zr]at hc;obtain⟨rfl,h1⟩:=hc;obtain⟨g1,g2,g3⟩:=hs;obtain⟨us,h2,h3⟩:=((QA h1 he).ug g1).flat g2;refine Qp8 hS h3 g2 ?_ g3;simp[execOp,hop,Instr.box,newVar,newRow,h2]
  . cases hc
 |bsl T sz len z parts =>
  simp only[Qbz]at hc;split at hc
  . rename_i t len' ps;simp only[Va,Zr,Zq]at hc;obtain⟨⟨⟨⟨⟨⟨h1,h2⟩,rfl⟩,h4⟩,h5⟩,h6⟩,h7⟩:=hc;obtain⟨g1,g2,g3⟩:=hs;have hu:=Qe8 h1;obtain⟨zv,hrun,hv,hcl⟩:=Qj8 (S:=S) h4;obtain⟨hl,hq⟩:=QqW (e:=e) h7 he;have hzl:zv.cells.toList.length=sz:=by rw[hv.1,h5]
    have hvz:=hv.zeros len';obtain⟨cells,hf,hvf⟩:=Qn6 (S:=S) (λi=>some (i*sz,sz)) (ps.toList.map λp=>(p.1,a.eval p.2)) (parts.map λp=>(p.1*sz,e.ev p.2))
     (List.replicate len' z).flatten (List.replicate len' zv.cells.toList).flatten hvz (by simpa using hl) (by
      intro j p q hpj hqj;rw[Vp]at hpj hqj
      cases hp0:ps.toList[j]? with
      |none=>rw[hp0]at hpj; cases hpj
      |some p0 =>
       cases hq0:parts[j]? with
       |none=>rw[hq0]at hqj; cases hqj
       |some q0 =>
        rw[hp0]at hpj; rw[hq0]at hqj;simp at hpj hqj;subst hpj hqj;obtain⟨k1,k2⟩:=hq j p0 q0 hp0 hq0;obtain⟨k3,k4⟩:=g1 q0 (Vv hq0);exact⟨sz,by simp[k1],k3,by rw[Qg1,h5]; exact k4,k2⟩)
    have hlen:cells.length=len'*sz:=by
     rw[hvf.1];have:∀ (qs:List (Nat×SV)) (z:ZH),(∀ q∈qs,q.1+q.2.ug.flat.length<=z.length)->(Qbk z qs).length=z.length:=by
      intro qs
      induction qs with
      |nil=>intro z _; rfl
      |cons q r ih =>
       intro z hz;obtain⟨off,v⟩:=q;have h8:=hz (off,v) (by simp);simp only[Qbk];have h9:(z.take off++v.ug.flat++z.drop (off+v.ug.flat.length)).length=z.length:=by simp at h8 ⊢; omega
       rw[ih _ (by intro q hq; rw[h9]; exact hz q (by simp[hq]))];exact h9
     rw[this,Qg1,h5];intro q hq;simp only[Vx]at hq;obtain⟨p,hp,rfl⟩:=hq;obtain⟨k3,k4⟩:=g1 p hp;have k5:(e.ev p.2).ug.flat.length=sz:=by
      unfold QaY at k3;split at k3
      . rename_i l hl; rw[hl]; exact k3.1
      . rename_i x hx;unfold SV.flat; split
        . rename_i l hl; exact absurd hl (hx l)
        . simp[k3.1]
     rw[Qg1,h5,k5]; exact k4
    refine QsJ (rest:=[]) (cap:=len') hS hvf g2 (Vb _) (by simp[hlen]) ?_ g3;simp only[execOp,hop,Instr.buildSlice,Sem.run_bind,run_underlying hu,Result.andThen_ok,QeA h2];rw[Zn (by omega)];have hzz:(Array.range (len'*sz)).map (λx=>zv.cells[x % zv.cells.size]!)=(List.replicate len' zv.cells.toList).flatten.toArray:=by
     have:=QqR (z:=zv.cells.toList) len';rw[hzl]at this;rw[<-this]; simp[madeCells]
    have e1:(ps.map λx=>(x.1,a.eval x.2)).toList=ps.toList.map λp=>(p.1,a.eval p.2):=by simp
    by_cases h0:len'*sz=0
    . have hz0:(List.replicate len' zv.cells.toList).flatten=[]:=by
       apply VJ; rw[Qg1,hzl]; exact h0
      rw[hz0]at hf;simp only[h0,Zs,Sem.run_pure,Array.range_zero',Array.map_empty,e1,hf];simp[newRow]
    . simp only[h0,Zu,Sem.run_bind,hrun,Result.andThen_ok,Sem.run_pure,hzz,e1,hf];simp[newRow]
  . cases hc
 |mks T sz bytes z len cap =>
  simp only[Qbz]at hc;split at hc
  . rename_i t l c;simp only[Va,Zr]at hc;obtain⟨⟨⟨⟨⟨h1,h2⟩,h4⟩,h5⟩,h6⟩,h7⟩:=hc;obtain⟨g1,g2,g3,g4,g5,g6,g7⟩:=hs;have hu:=Qe8 h1;obtain⟨i,zv,hi,hzv,hsz,hby,hzs⟩:=QrJ h2;obtain⟨zv',hrun,hv,hcl⟩:=Qj8 (S:=S) h4;have e1:zv'=zv:=by
     have:=hrun S.w;simp[zeroValue,typeInfo,hi,hzv]at this;exact this.symm
    subst e1;have hzl:zv'.cells.toList.length=sz:=by rw[hv.1,h5]
    obtain⟨kl,hkl⟩:=(QA h6 he).isN g1;obtain⟨kc,hkc⟩:=(QA h7 he).isN g2;have hm:=run_make (P:=P) S.w t T i zv' hu hi hzv kl kc (e.ev len).int (e.ev cap).int g3 g4 (by rw[hby]; omega) (by omega);have hme:madeCells zv'.cells ((e.ev cap).int.toNat*i.size)=((List.replicate (e.ev len).int.toNat zv'.cells.toList).flatten++(List.replicate ((e.ev cap).int.toNat-(e.ev len).int.toNat) zv'.cells.toList).flatten).toArray:=by
     have h8:=QqR (z:=zv'.cells.toList) (e.ev cap).int.toNat;rw[hzl]at h8;rw[hsz];have h9:(e.ev cap).int.toNat=(e.ev len).int.toNat+((e.ev cap).int.toNat-(e.ev len).int.toNat):=by omega
     rw[<-Zf,List.replicate_append_replicate,<- h9,<- h8]
    refine QsJ (cap:=(e.ev cap).int.toNat) (rest:=(List.replicate ((e.ev cap).int.toNat-(e.ev len).int.toNat) zv'.cells.toList).flatten) hS (hv.zeros _) (QBM (λs h=>(hcl s h).1) _) (by omega) ?_ ?_ g7
    . rw[Vj,Qg1,Qg1,hzl,<- Yb];apply YW; omega
    . rw[<-hme];simp[execOp,hop,hkl,hkc,hm]
  . cases hc
 |app T sz bytes s x =>
  simp only[Qbz]at hc;split at hc
  . rename_i as ts;split at hc
    . rename_i s' x' t t' ha ht;simp only[Va,Zr,Zq]at hc;obtain⟨⟨⟨⟨⟨rfl,h1⟩,h2⟩,h3⟩,h4⟩,h5⟩:=hc;obtain⟨g1,g2,g3,g4,g5,g6,g7,g8⟩:=hs;have ha':as = #[s',x']:=by rw[<-ha]
      have ht':ts = #[t,t]:=by rw[<-ht]
      subst ha' ht';obtain⟨adx,capx,news,hx1,hx2,hx3,hx4,hx5⟩:=VR.els hS ((QA h2 he).ug g2) g3 g4;have hs0:=(QA h1 he).ug g1;split at g8
      . rename_i i0 n sz' ver hown;rw[hown]at g6 g7 hs0;simp only[SV.slen]at g6 g7;obtain⟨rfl,⟨ob,ho,hl,hver,hty,hlen⟩,hK⟩:=g8;rw[Qb5 ho]at hK;obtain⟨ads,cap,hsv,hcap,hz,hat⟩:=hs0.own_inv ho hver;obtain⟨v',S',hr,hext,hsim,hvr,hH⟩:=Qj7 (ty:=o.type) hS (Qe8 h3) h4 ho hl hver hty hlen hcap hz hat (Qp5 (capx:=capx) (Qe8 h3) hx2 hx4 hx5 (hx3.oneCells g5)) hx3 g5 g6 g7;refine⟨v',S',_,.inl ?_,hext,hsim,hvr,?_⟩
        . have h9:(execOp a.eval o).run P S.w=((Builtin.append_ #[t,t] o.type #[.slice ads n cap,.slice adx (e.ev x).ug.slen capx]).run P S.w).andThen λv w'=>.ok (.value v) w':=by
           simp[execOp,hop,resolve,invoke,builtin,hsv,hx1]
          rw[h9,hr]; rfl
        . rw[hH]; exact hK
      . obtain⟨hnil,hK⟩:=g8;have hsv:=hs0.isNil hnil;have hn0:(e.ev s).ug.slen=0:=by
         generalize (e.ev s).ug=w at hnil
         cases w<;>simp[SV.isNil]at hnil<;>rfl
        rw[hn0]at g6 g7;have hap:=Qj7 (ty:=o.type) (i0:=S.H.length) (n:=0) (ver:=0) (ob:=⟨[],T,0,true⟩) (ads:=none) (cap:=0) (QkZ hS T) (Qe8 h3) h4 (by simp[St.newNil]) rfl rfl rfl (by simp) (Vb _) (λ_=>rfl)
         (by simp[St.OwnAt,St.newNil,QaZ]) (Qp5 (w:=(S.newNil T).w) (capx:=capx) (Qe8 h3) hx2 hx4 hx5 (hx3.oneCells g5)) (hx3.ext (Qhd S T)) g5 g6 g7
        obtain⟨v',S',hr,hext,hsim,hvr,hH⟩:=hap;have hl0:S.H.length<=(S.newNil T).H.length:=by simp[St.newNil]
        refine⟨v',S',_,.inl ?_,(Qhd S T).trans (hext.mono hl0),hsim,hvr,?_⟩
        . have h9:(execOp a.eval o).run P S.w=((Builtin.append_ #[t,t] o.type #[.slice none 0 0,.slice adx (e.ev x).ug.slen capx]).run P S.w).andThen λv w'=>.ok (.value v) w':=by
           simp[execOp,hop,resolve,invoke,builtin,hsv,hx1]
          have hr':(Builtin.append_ #[t,t] o.type #[.slice none 0 0,.slice adx (e.ev x).ug.slen capx]).run P S.w=.ok v' S'.w:=hr;rw[h9,hr']; rfl
        . rw[hH];have:(S.newNil T).H.set S.H.length ((⟨[],T,0,true⟩:AO).grow ((e.ev x).ug.els S.H sz))=S.H++[⟨(e.ev x).ug.els S.H sz,T,1,true⟩]:=by
           simp[St.newNil,AO.grow]
          rw[this,Ya]; exact hK
    . cases hc
  . cases hc
 |st n p x =>
  simp only[Qbz]at hc;split at hc
  . rename_i t p' x';simp only[Va]at hc;obtain⟨⟨h1,h2⟩,h3⟩:=hc;obtain⟨g1,g2,g3,g4,g5,g6⟩:=hs;obtain⟨us,hx1,hx2⟩:=((QA h2 he).ug g2).flat g3;have hp:=(QA h1 he).ug g1;split at g6
    . rename_i i0 off l0 s0 ver k hpt;rw[hpt]at hp;obtain⟨g6,hK⟩:=g6;have hk0:off+k<(Qo S.H i0 ver).length:=by omega
      obtain⟨ob,b,us0,rest,u,ho,hl,hver,hρ,hh,hvr,_⟩:=hS.read (Ve hk0);have hob:Qo S.H i0 ver=ob.cells:=by rw[<-hver]; exact Qav ho hl
      rw[hob]at g6;rw[Qb5 ho]at hK;have husl:us.length=n:=by rw[hx2.1,g4]
      have hus0:us0.length=ob.cells.length:=hvr.1;generalize hpv:a.eval p'=pv at hp
      cases hp with
      |ptrO _ _ _ _ _ _ ad o' ho' hvl hat =>
       rw[ho]at ho'; cases ho'
       obtain⟨b',hb',had⟩:=hat hver;rw[hρ]at hb'; cases hb'
       subst had;have hst:=run_storeCells_at P b (off+k) ob.ty us 0 (us0++rest).toArray S.w hh (by simp; omega) (hx2.oneCells g3);simp only[V6]at hst;rw[QkR S.w b _ _ ob.ty (0,0) hh]at hst;have hcells:((us0++rest).toArray.toList.take (off+k)++us++(us0++rest).toArray.toList.drop (off+k+us.length))=(us0.take (off+k)++us++us0.drop (off+k+us.length))++rest:=by
        have e1:off+k<=us0.length:=by omega
        have e2:off+k+us.length<=us0.length:=by omega
        simp[YX e1,YY e2]
       rw[hcells]at hst;have hv':VRs S (ob.cells.take (off+k)++(e.ev x).ug.flat++ob.cells.drop (off+k+(e.ev x).ug.flat.length)) (us0.take (off+k)++us++us0.drop (off+k+us.length)):=by
        have:us.length=(e.ev x).ug.flat.length:=hx2.1;rw[this];exact((hvr.take _).append hx2).append (hvr.drop _)
       have hput:ob.put (off+k) (e.ev x).ug.flat=⟨ob.cells.take (off+k)++(e.ev x).ug.flat++ob.cells.drop (off+k+(e.ev x).ug.flat.length),ob.ty,ob.ver,true⟩:=by
        cases ob; simp[AO.put]at *; exact hl
       rw[hput]at hK;obtain⟨hs1,hs2⟩:=Qhx hS (cells:=ob.cells.take (off+k)++(e.ev x).ug.flat++ob.cells.drop (off+k+(e.ev x).ug.flat.length)) (ver:=ob.ver) ho hl hρ (Vb _)
        (us:=us0.take (off+k)++us++us0.drop (off+k+us.length)) (rest:=rest) hh (by simp; omega) hv' (by
         intro s hs;simp only[Vq]at hs;rcases hs with (hs|hs)|hs
         . exact hS.belL ho hl s (Yj hs)
         . exact hx2.unders g3 s hs
         . exact hS.belL ho hl s (YQ hs)) (w':=_) rfl
       refine⟨undef,_,_,.inr ⟨?_,rfl⟩,hs2,hs1,.val _,hK⟩;simp only[execOp,hop,hpv,Instr.storeAt,Instr.sureAddr,Sem.run_bind,Sem.run_pure,Result.andThen_ok,storeVar,QeA h3,hx1];rw[Zn (by simp[husl])];simp only[hst,Result.andThen_ok]
    . exact g6.elim
  . cases hc
 |stw ws n p x =>
  simp only[Qbz]at hc;split at hc
  . rename_i t p' x';simp only[Va]at hc;obtain⟨⟨h1,h2⟩,h3⟩:=hc;obtain⟨g1,g2,g3,g4,g5,g6⟩:=hs;obtain⟨us,hx1,hx2⟩:=((QA h2 he).ug g2).flat g3;have hp:=(QA h1 he).ug g1;split at g6
    . rename_i i0 off l0 s0 ver k hpt;rw[hpt]at hp;obtain⟨g6,hK⟩:=g6;have hk0:off+k<(Qo S.H i0 ver).length:=by omega
      obtain⟨ob,b,us0,rest,u,ho,hl,hver,hρ,hh,hvr,_⟩:=hS.read (Ve hk0);have hob:Qo S.H i0 ver=ob.cells:=by rw[<-hver]; exact Qav ho hl
      rw[hob]at g6;rw[Qb5 ho]at hK;have husl:us.length=n:=by rw[hx2.1,g4]
      have hus0:us0.length=ob.cells.length:=hvr.1;generalize hpv:a.eval p'=pv at hp
      cases hp with
      |ptrO _ _ _ _ _ _ ad o' ho' hvl hat =>
       rw[ho]at ho'; cases ho'
       obtain⟨b',hb',had⟩:=hat hver;rw[hρ]at hb'; cases hb'
       subst had;have hst:=run_storeCells_at P b (off+k) ob.ty us 0 (us0++rest).toArray S.w hh (by simp; omega) (hx2.oneCells g3);simp only[V6]at hst;rw[QkR S.w b _ _ ob.ty (0,0) hh]at hst;have hcells:((us0++rest).toArray.toList.take (off+k)++us++(us0++rest).toArray.toList.drop (off+k+us.length))=(us0.take (off+k)++us++us0.drop (off+k+us.length))++rest:=by
        have e1:off+k<=us0.length:=by omega
        have e2:off+k+us.length<=us0.length:=by omega
        simp[YX e1,YY e2]
       rw[hcells]at hst;have hv':VRs S (ob.cells.take (off+k)++(e.ev x).ug.flat++ob.cells.drop (off+k+(e.ev x).ug.flat.length)) (us0.take (off+k)++us++us0.drop (off+k+us.length)):=by
        have:us.length=(e.ev x).ug.flat.length:=hx2.1;rw[this];exact((hvr.take _).append hx2).append (hvr.drop _)
       have hput:ob.put (off+k) (e.ev x).ug.flat=⟨ob.cells.take (off+k)++(e.ev x).ug.flat++ob.cells.drop (off+k+(e.ev x).ug.flat.length),ob.ty,ob.ver,true⟩:=by
        cases ob; simp[AO.put]at *; exact hl
       rw[hput]at hK;obtain⟨hs1,hs2⟩:=Qhx hS (cells:=ob.cells.take (off+k)++(e.ev x).ug.flat++ob.cells.drop (off+k+(e.ev x).ug.flat.length)) (ver:=ob.ver) ho hl hρ (Vb _)
        (us:=us0.take (off+k)++us++us0.drop (off+k+us.length)) (rest:=rest) hh (by simp; omega) hv' (by
         intro s hs;simp only[Vq]at hs;rcases hs with (hs|hs)|hs
         . exact hS.belL ho hl s (Yj hs)
         . exact hx2.unders g3 s hs
         . exact hS.belL ho hl s (YQ hs)) (w':=_) rfl
       refine⟨undef,_,_,.inr ⟨?_,rfl⟩,hs2,hs1,.val _,hK⟩;simp only[execOp,hop,hpv,Instr.storeAt,Instr.sureAddr,Sem.run_bind,Sem.run_pure,Result.andThen_ok,storeVar,QeA h3,hx1];rw[Zn (by simp[husl])];simp only[hst,Result.andThen_ok]
    . exact g6.elim
  . cases hc
 |nil T sz x =>
  obtain⟨g1,g2,g3⟩:=hs;have hv:∀ (x':Operand),Qy x' x=true->a.eval x'=.slice none 0 0:=by
   intro x' h;exact((QA h he).ug g1).isNil g2
  have main:(execOp a.eval o).run P S.w=.ok (.value (.slice none 0 0)) S.w:=by
   simp only[Qbz]at hc;split at hc
   . simp[execOp,hop,hv _ hc]
   . simp[execOp,hop,hv _ hc]
   . cases hc
  refine⟨_,S.newNil T,_,.inl main,Qhd S T,QkZ hS T,?_,g3⟩;refine .own _ 0 0 sz 0 none 0 ⟨[],T,0,true⟩ (by simp[St.newNil]) (Vb _) (Vb _) (λ_=>rfl) λ_ => ?_;simp[St.OwnAt,St.newNil,QaZ]
 |aps T s x =>
  simp only[Qbz]at hc;split at hc
  . rename_i as ts;split at hc
    . rename_i s' x' t t' ha ht;simp only[Va]at hc;obtain⟨⟨⟨⟨h1,h2⟩,h3⟩,h4⟩,h5⟩:=hc;split at h5
      . rename_i ht2;obtain⟨g1,g2,g3,g8⟩:=hs;have ha':as = #[s',x']:=by rw[<-ha]
        have ht':ts = #[t,t']:=by rw[<-ht]
        subst ha' ht';have hx1:=(QA h2 he).isS g2;have hs0:=(QA h1 he).ug g1;have hsrc:∀ w,Src P 1 t' (.string (e.ev x).str) (e.ev x).str.size (byteCells (e.ev x).str) w:=λw=>Src.ofString w ht2 _;have hx3:∀ S:St,VRs S (Qai (e.ev x).str) (byteCells (e.ev x).str):=λS=>by
         refine⟨by simp[Qai,byteCells],λj a b h6 h7 => ?_⟩;simp only[Qai,byteCells,Vp,VY]at h6 h7;obtain⟨c,h6,rfl⟩:=h6;obtain⟨d,h7,rfl⟩:=h7;rw[h6]at h7; cases h7
         exact .val _
        have g5:QD (Qai (e.ev x).str):=by
         intro c hc;simp only[Qai,Vx]at hc;obtain⟨b,_,rfl⟩:=hc;rfl
        split at g8
        . rename_i i0 n sz' ver hown;rw[hown]at g3 hs0;simp only[SV.slen]at g3;obtain⟨rfl,⟨ob,ho,hl,hver,hty,hlen⟩,hK⟩:=g8;rw[Qb5 ho]at hK;obtain⟨ads,cap,hsv,hcap,hz,hat⟩:=hs0.own_inv ho hver;obtain⟨v',S',hr,hext,hsim,hvr,hH⟩:=Qj7 (ty:=o.type) hS (Qe8 h3) h4 ho hl hver hty hlen hcap hz hat (hsrc _) (hx3 S) g5 (by omega) g3;refine⟨v',S',_,.inl ?_,hext,hsim,hvr,?_⟩
          . have h9:(execOp a.eval o).run P S.w=((Builtin.append_ #[t,t'] o.type #[.slice ads n cap,.string (e.ev x).str]).run P S.w).andThen λv w'=>.ok (.value v) w':=by
             simp[execOp,hop,resolve,invoke,builtin,hsv,hx1]
            rw[h9,hr]; rfl
          . rw[hH]; exact hK
        . obtain⟨hnil,hK⟩:=g8;have hsv:=hs0.isNil hnil;have hn0:(e.ev s).ug.slen=0:=by
           generalize (e.ev s).ug=w at hnil
           cases w<;>simp[SV.isNil]at hnil<;>rfl
          rw[hn0]at g3;have hap:=Qj7 (ty:=o.type) (i0:=S.H.length) (n:=0) (ver:=0) (ob:=⟨[],T,0,true⟩) (ads:=none) (cap:=0) (QkZ hS T) (Qe8 h3) h4 (by simp[St.newNil]) rfl rfl rfl (by simp) (Vb _) (λ_=>rfl)
           (by simp[St.OwnAt,St.newNil,QaZ]) (hsrc _) (hx3 _) g5 (by omega) g3
          obtain⟨v',S',hr,hext,hsim,hvr,hH⟩:=hap;have hl0:S.H.length<=(S.newNil T).H.length:=by simp[St.newNil]
          refine⟨v',S',_,.inl ?_,(Qhd S T).trans (hext.mono hl0),hsim,hvr,?_⟩
          . have h9:(execOp a.eval o).run P S.w=((Builtin.append_ #[t,t'] o.type #[.slice none 0 0,.string (e.ev x).str]).run P S.w).andThen λv w'=>.ok (.value v) w':=by
             simp[execOp,hop,resolve,invoke,builtin,hsv,hx1]
            have hr':(Builtin.append_ #[t,t'] o.type #[.slice none 0 0,.string (e.ev x).str]).run P S.w=.ok v' S'.w:=hr;rw[h9,hr']; rfl
          . rw[hH];have:(S.newNil T).H.set S.H.length ((⟨[],T,0,true⟩:AO).grow (Qai (e.ev x).str))=S.H++[⟨Qai (e.ev x).str,T,1,true⟩]:=by
             simp[St.newNil,AO.grow]
            rw[this,Ya]; exact hK
      . cases h5
    . cases hc
  . cases hc
 |sby x =>
  obtain⟨g1,g2⟩:=hs;simp only[Qbz]at hc;split at hc
  . rename_i src dst x';rw[Va,Va]at hc;obtain⟨⟨h1,h2⟩,h3⟩:=hc;split at h2
    . rename_i hu;split at h3
      . rename_i el hd;split at h3
        . rename_i hel;have hv:=(QA h1 he).isS g1;have hrun:=run_bytes_of_string (P:=P) S.w src dst el (e.ev x).str hu hd hel;obtain⟨he1,hs1,hv1⟩:=Qwx hS (e.ev x).str (grownCap S.w (e.ev x).str.size 0 el) el ((bytesRow (e.ev x).str (grownCap S.w (e.ev x).str.size 0 el)).size,(bytesRow (e.ev x).str (grownCap S.w (e.ev x).str.size 0 el)).size+1) (grownCap_ge _ _ _ _);refine⟨_,⟨S.ρ,S.H,_⟩,_,.inl ?_,he1,hs1,hv1,g2⟩;simp[execOp,hop,hv,hrun]
        . cases h3
      . cases h3
    . cases h2
  . cases hc
 |call f args=>cases hcall
 |pan x=>cases hcall
 |mkm T =>
  simp only[Qbz]at hc;have hrun:(execOp a.eval o).run P S.w=.ok (.value (.map (some S.w.heap.size))) (S.w.alloc (.map #[] 0)):=by
   split at hc
   . simp[execOp,hop,Instr.makeMap,Result.andThen]
   . rename_i T' k n;rw[Va,Zr]at hc;obtain⟨rfl,h2⟩:=hc;split at h2
     . rename_i kt et hu;simp[execOp,hop,Instr.makeMap,run_underlying hu,asInt,asIntOf,Result.andThen,Qtd]
     . cases h2
   . cases hc
  refine⟨.map (some S.w.heap.size),S.newSp (.map #[] 0) ⟨[.mk []],T,0,false⟩,.mp S.H.length 0,.inl ?_,QmM _ _,Qtl hS (m:=.mk []) (us:=[]) ⟨rfl,rfl⟩ (VRs.nil S),?_,hs⟩
  . rw[hrun]; rfl
  . exact .mp _ _ _ _ (by simp[St.newSp]; rfl) (Vb _) λ_=>by simp only[St.newSp,QaZ]
 |mup kk m' k' v' =>
  simp only[Qbz]at hc;have hop2:∃ t m k v,(op=.mapUpdate t m k v\/op=.insert t m k v)/\Qy m m'=true/\Qy k k'=true/\Qy v v'=true/\Qkj P t kk=true:=by
   split at hc
   . rename_i t m k v;simp only[Va]at hc;exact⟨t,m,k,v,.inl rfl,hc.1.1.1,hc.1.1.2,hc.1.2,hc.2⟩
   . rename_i t m k v;simp only[Va]at hc;exact⟨t,m,k,v,.inr rfl,hc.1.1.1,hc.1.1.2,hc.1.2,hc.2⟩
   . cases hc
  obtain⟨t,m,k,v,hopv,h1,h2,h3,h4⟩:=hop2;obtain⟨kt,et,hu,hk,hzz⟩:=QAT h4;obtain⟨g1,g2,g3,g4⟩:=hs;have k1:=(QA h1 he).ug g1;obtain⟨k2,k3⟩:=(QA h2 he).isK g2;have k4:=(QA h3 he).ug g3;split at g4
  . rename_i i ver x hmp hmo;obtain⟨g5,g7,g6⟩:=g4;rw[hmp]at k1 hmo;generalize hmv:a.eval m=mv at k1
    cases k1 with
    |mp _ _ l o' ho hv hat =>
    simp only[SV.mapOf,ho]at hmo;split at hmo
    . rename_i hcond;split at hmo
      . rename_i ks vs hcells
        cases hmo
        have hoe:o'=⟨.mk ks::vs,o'.ty,o'.ver,false⟩:=by
         obtain⟨c,ty,vv,lv⟩:=o';simp only at hcells hcond ⊢;rw[hcells,hcond.1]
        have ho2:S.H[i]? = some ⟨.mk ks::vs,o'.ty,o'.ver,false⟩:=by rw[ho]; congr 1
        obtain⟨l',es,cl,q1,q2,q3,q4⟩:=hS.map ho2;rw[hat hcond.2]at q1; cases q1
        have hρ:=hat hcond.2;subst q3;have hck:=QrL (P:=P) (w:=S.w) hk hzz k3 false;rw[<-k2]at g7;have key:∃ x',(Instr.mapUpdate t (.map (some l)) (a.eval k) (a.eval v)).run P S.w=.ok () (S.w.putObj l x')/\(∃ es2 cl2,x'=Obj.map es2 cl2) /\
         ∃ us,SpR (.mk (Qac (a.eval k) (es.toList.map (·.key)))) x' us/\VRs S (Qaa (a.eval k) (e.ev v').ug (es.toList.map (·.key)) vs) us:=by
         rcases Qxs hk hzz hS k3 k4 g5 g7 q4 with ⟨r1,r2,r3⟩|⟨j,en,r1,r2,r3,r4,r5⟩
         . refine⟨.map (es.push ⟨a.eval k,a.eval v,cl⟩) (cl+1),?_,⟨_,_,rfl⟩,_,⟨?_,rfl⟩,?_⟩
           . have hfk:=r1;simp[Instr.mapUpdate,run_underlying hu,Go.MapKept.run_getObj_map q2,hck,hfk,Go.MapKept.run_setObj_map _ q2,Result.andThen,World.putObj]
           . rw[r2]; simp
           . simpa using r3
         . have hfk:=r1;have hj:es[j]? = some en:=by simpa using r2
           have hjl:j<es.size:=(V7.1 hj).1;refine⟨.map (es.modify j λe=>{ e with key:=a.eval k,val:=a.eval v }) cl,?_,⟨_,_,rfl⟩,_,⟨?_,rfl⟩,?_⟩
           . have hks:=QxZ (P:=P) (w:=S.w) k3;simp[Instr.mapUpdate,run_underlying hu,Go.MapKept.run_getObj_map q2,hck,hfk,hj,r3,hks,Go.MapKept.run_setObj_map _ q2,Result.andThen,World.putObj]
           . rw[r4];apply V5;intro n;simp only[Vp,YZ,Zd];by_cases hn:j=n
             . subst hn; rw[Zo rfl,hj]; simp[r3]
             . rw[Zn hn]
           . have e1:(es.modify j λe=>{ e with key:=a.eval k,val:=a.eval v }).toList.map (·.val)=(es.toList.map (·.val)).set j (a.eval v):=by
              apply V5;intro n;simp only[Vp,YZ,Zd,YA];by_cases hn:j=n
              . subst hn; simp[hjl]
              . rw[Zn hn,Zn hn]
             rw[e1]; exact r5
        obtain⟨x',hrun,hx',us,hsp,hvs⟩:=key;have hne:(⟨.mk (es.toList.map (·.key))::vs,o'.ty,o'.ver,false⟩:AO).cells≠[]:=by simp
        obtain⟨he1,he2⟩:=Qse hS ho2 rfl hne hρ q2 (.inr ⟨es,cl,rfl⟩) (λr h=>by cases h) (o':=⟨.mk (Qac (a.eval k) (es.toList.map (·.key)))::Qaa (a.eval k) (e.ev v').ug (es.toList.map (·.key)) vs,o'.ty,o'.ver,false⟩) rfl (Vb _)
         (.inr ⟨_,us,_,rfl,hsp,hvs⟩)
        refine⟨undef,_,.val undef,.inr ⟨?_,rfl⟩,he1,he2,.val _,?_⟩
        . rcases hopv with rfl|rfl<;>simp[execOp,hop,hmv,hrun]
        . rw[Qb5 ho]at g6;rw[<-k2]at g6;have e3:({ o' with cells:=.mk (Qac (a.eval k) (es.toList.map (·.key)))::Qaa (a.eval k) (e.ev v').ug (es.toList.map (·.key)) vs }:AO)=⟨.mk (Qac (a.eval k) (es.toList.map (·.key)))::Qaa (a.eval k) (e.ev v').ug (es.toList.map (·.key)) vs,o'.ty,o'.ver,false⟩:=by
           rw[hoe]
          rw[e3]at g6;exact g6
      . cases hmo
    . cases hmo
  . exact g4.elim
end
end
def Fr (ro:Option Nat):Fence:={ fn:=λ_=>True,depth:=none,alive:=false,round:=ro }
theorem Qhl (ro:Option Nat) (n:Nat):(Fr ro).room n:=λ_ h=>by simp[Fr]at h
theorem QjZ {ro:Option Nat} {n:Nat}:(Fr ro).depth.isSome=true->1<=n:=λh=>by simp[Fr]at h
def _root_.Go.Code.wq (ro:Option Nat) (P:ZL) (c:Code) (Q:Exit->Act->ZM->Prop) (a:Act) (w:ZM):Prop:=c.wpIn (Fr ro) 0 P Q a w
def _root_.Go.Oper.wq (P:ZL) (o:Oper) (a:Act) (w:ZM) (next:Act->ZM->Prop) (Q:Exit->Act->ZM->Prop):Prop :=
 o.uponIn (Fr none) 0 P a next Q ((execOp a.eval o).run P w)
def Qcc (P:ZL) (ops:Array Oper) (Q:Exit->Act->ZM->Prop) (i:Nat) (K:Act->ZM->Prop) (a:Act) (w:ZM):Prop :=
 match ops[i]? with
 |none=>K a w
 |some o=>if Region.wanted o (yielded ops a.tmps)then o.wq P a w K Q else K (a.put o.dst undef) w
def Qe4 (P:ZL) (ops:Array Oper) (Q:Exit->Act->ZM->Prop):List Nat->Act->ZM->Prop
 |[],a,w=>Q .normal a w
 |i::rest,a,w=>Qcc P ops Q i (Qe4 P ops Q rest) a w
def QdQ (P:ZL) (ops:Array Oper) (Q:Exit->Act->ZM->Prop):List Oper->Act->ZM->Prop
 |[],a,w=>Q .normal a w
 |o::rest,a,w=>if Region.wanted o (yielded ops a.tmps)then o.wq P a w (QdQ P ops Q rest) Q else QdQ P ops Q rest (a.put o.dst undef) w
def Qcp (P:ZL) (md:Region.Mode) (ops:Array Oper) (Q:Exit->Act->ZM->Prop):Nat->Array Bool->Act->ZM->Prop
 |0,listed,a,w=>Region.ready md ops listed=[]/\Q .normal a w
 |fuel+1,listed,a,w =>
  (Region.ready md ops listed=[]->Q .normal a w) /\
  ∀ i∈Region.ready md ops listed,Qcc P ops Q i (Qcp P md ops Q fuel (listed.setIfInBounds i true)) a w
section
variable {P:ZL} {ops:Array Oper} {Q:Exit->Act->ZM->Prop} {md:Region.Mode}
theorem _root_.Go.Oper.wq_mono {o:Oper} {a:Act} {w:ZM} {K K':Act->ZM->Prop} {Q Q':Exit->Act->ZM->Prop} (h:∀ a w,K a w->K' a w) (hq:∀ e a w,e≠.normal->Q e a w->Q' e a w)
 (hh:o.wq P a w K Q):o.wq P a w K' Q':=by
 unfold Oper.wq at *;generalize (execOp a.eval o).run P w=r at *
 cases r with
 |ok n w' =>
  cases n<;>simp only[Oper.uponIn]at hh ⊢ <;>
   first
    |exact h _ _ hh
    |exact⟨hh.1,CallsIn.mono hh.2 (λe w'' he=>by cases e<;>first|exact h _ _ he|exact hq _ _ _ (by simp) he|exact(let ⟨a,w,hx⟩:=he; ⟨a,w,hq _ _ _ (by simp) hx⟩))⟩
    |exact⟨hh.1,RoundIn.mono hh.2 (λe w'' he=>by cases e<;>first|exact h _ _ he|exact hq _ _ _ (by simp) he|exact(let ⟨a,w,hx⟩:=he; ⟨a,w,hq _ _ _ (by simp) hx⟩))⟩
    |exact⟨hh.1,λc cs hr=>let ⟨v,w',h1,h2⟩:=hh.2 c cs hr; ⟨v,w',h _ _ h1,h2⟩⟩
 |halt x w'=>cases x<;>simp only[Oper.uponIn]at hh ⊢ <;> exact hq _ _ _ (by simp) hh
theorem Qp4 {i:Nat} {a:Act} {w:ZM} {K K':Act->ZM->Prop} (h:∀ a w,K a w->K' a w) (hh:Qcc P ops Q i K a w):Qcc P ops Q i K' a w:=by
 unfold Qcc at *;split
 . exact h _ _ (by simpa[*]using hh)
 . rename_i o ho;simp only[ho]at hh;split
   . rename_i hw; simp only[hw,Zs]at hh; exact Oper.wq_mono h (λ_ _ _ _ h=>h) hh
   . rename_i hw; simp only[hw]at hh; exact h _ _ hh
theorem QsK (l:List Oper):∀ k,(∀ j,l[j]? = ops[k+j]?)->Qe4 P ops Q (List.range' k l.length)=QdQ P ops Q l:=by
 induction l with
 |nil=>intro k _; funext a w; simp[Qe4,QdQ]
 |cons o l ih =>
  intro k h;have h0:ops[k]? = some o:=by simpa using (h 0).symm
  have ih':=ih (k+1) (λj=>by have:=h (j+1); simpa[Ye,Nat.add_comm 1 j]using this);funext a w;simp only[Vh,YT,Qe4,Qcc,h0,QdQ,ih']
theorem QwJ (md:Region.Mode) (ops:Array Oper) (fuel t:Nat) (listed:Array Bool) (acc:List Nat) :
 Region.linearise.go md ops fuel t listed acc=acc.reverse++Region.linearise.go md ops fuel t listed []:=linearise_go_acc md ops fuel t listed acc
theorem Qxd:∀ (fuel t:Nat) (listed:Array Bool) (a:Act) (w:ZM),Qcp P md ops Q fuel listed a w ->
 Qe4 P ops Q (Region.linearise.go md ops fuel t listed []) a w:=by
 intro fuel
 induction fuel with
 |zero=>intro t listed a w h; simpa[Region.linearise.go,Qe4]using h.2
 |succ fuel ih =>
  intro t listed a w h;obtain⟨h₀,h₁⟩:=h;simp only[Region.linearise.go];change Qe4 P ops Q (match (Region.ready md ops listed)[t % (Region.ready md ops listed).length]? with
   |some i=>Region.linearise.go md ops fuel (t / (Region.ready md ops listed).length) (listed.setIfInBounds i true) [i]
   |none=>[].reverse) a w
  cases hi:(Region.ready md ops listed)[t % (Region.ready md ops listed).length]? with
  |none =>
   have hnil:Region.ready md ops listed=[]:=by
    cases hr:Region.ready md ops listed with
    |nil=>rfl
    |cons x xs =>
     rw[hr]at hi;have hlt:t % (x::xs).length<(x::xs).length:=Nat.mod_lt _ (by simp);simp at hi;simp at hlt;omega
   simpa[Qe4]using h₀ hnil
  |some i =>
   simp only[];rw[QwJ,List.reverse_singleton,List.singleton_append];exact Qp4 (λa w=>ih _ _ a w) (h₁ i (Vv hi))
def ndB (ops:Array Oper):Bool:=ops.all λo=>match o.op with|.defer _=>false|_=>true
theorem Qup (h:ndB ops=true) {i:Nat} {o:Oper} (ho:ops[i]? = some o):∀ c,o.op≠.defer c:=by
 intro c hc;unfold ndB at h;rw[Array.all_eq_true]at h;obtain⟨hlt,rfl⟩:=V7.1 ho;have:=h i hlt;rw[hc]at this; cases this
theorem Qzp {ro:Option Nat} {o:Oper} {a:Act} {next:Act->ZM->Prop} {r:Result Next} (h:o.uponIn (Fr none) 0 P a next Q r):o.uponIn (Fr ro) 0 P a next Q r:=by
 cases r with
 |ok n w=>cases n<;>exact h
 |halt x w=>cases x<;>exact h
theorem QmF (hn:ndB ops=true) (ro:Option Nat):∀ (l:List Nat) (a:Act) (w:ZM),Qe4 P ops Q l a w->wpOpsIn (Fr ro) 0 P ops Q l a w:=by
 intro l
 induction l with
 |nil=>exact λa w h=>h
 |cons i r ih =>
  intro a w h;have h':Qcc P ops Q i (wpOpsIn (Fr ro) 0 P ops Q r) a w:=Qp4 ih h;unfold Qcc at h';simp only[wpOpsIn]
  cases ho:ops[i]? with
  |none=>rw[ho]at h'; exact h'
  |some o =>
   rw[ho]at h';simp only at h' ⊢;split
   . rename_i hw;rw[Zo hw]at h';refine⟨λ_ _=>trivial,?_⟩;rw[Oper.semAt_eq _ _ _ (Qup hn ho)];exact Qzp h'
   . rename_i hw;rw[Zn hw]at h';exact⟨λ_ _=>trivial,h'⟩
variable {a:Act} {w:ZM} {ro:Option Nat}
theorem Qxu {id:Nat} (hn:ndB ops=true) (h:QdQ P ops Q ops.toList a w):(Code.region id ops false).wq ro P Q a w :=
 wpIn_region (QmF hn ro _ a w (by rw[YU,<- Array.length_toList,QsK ops.toList 0 (by simp)]; exact h))
theorem Qso {id:Nat} (hn:ndB ops=true) (hm:P.follows .mixedOrders=true)
 (h:Qcp P .any ops Q ops.size (Array.replicate ops.size false) a { w with drawn:=w.drawn+1 }):(Code.region id ops true).wq ro P Q a w :=
 wpIn_region_draw λt=>by
  simp only[Region.schedule,hm,Bool.true_or,Zs];exact QmF hn ro _ a _ (Qxd ops.size t _ a _ h)
theorem Quz {o:Oper} {rest:List Oper}
 (h:∀ K:Act->ZM->Prop,(∀ a w,QdQ P ops Q rest a w->K a w) ->
  if Region.wanted o (yielded ops a.tmps)then o.wq P a w K Q else K (a.put o.dst undef) w):QdQ P ops Q (o::rest) a w:=h _ λ_ _ h=>h
theorem wq_mono {c:Code} {Q':Exit->Act->ZM->Prop} (h:c.wq ro P Q a w) (hq:∀ e a w,Q e a w->Q' e a w):c.wq ro P Q' a w:=wpIn_mono h hq
end
section
variable {P:ZL} {b:Frame} {a:Act} {k:List Item} {cs:List Frame} {w:ZM} {F:Fence} {n:Nat} {Q:Exit->Act->ZM->Prop}
theorem Qha {c:Code}:step P (lone (b.atR a (.code (.scope c)::k)) cs w)=.next (lone (b.atR a (.code c::.inScope c::k)) cs w) :=
 step_lone_go (by simp[stepG,stepG.exec,Frame.atR])
theorem Qwk {c:Code}:step P (lone (b.atR a (.inScope c::k)) cs w)=.next (lone (b.atR a k) cs w) :=
 step_lone_go (by simp[stepG,stepG.exec,Frame.atR])
theorem QuR {c:Code} (h:c.wpIn F n P (λe a w=>(match e with|.goto _=>False|_=>True)/\Q e a w) a w):(Code.scope c).wpIn F n P Q a w:=by
 intro b k cs hro hb hr;have h0:(lone (b.atR a (.code (.scope c)::k)) cs w).fenced P F:=fenced_calm hb hr rfl;obtain⟨e,a₁,w₁,⟨hg,hq⟩,harr⟩:=h b (.inScope c::k) cs hro hb hr;have hx:∀ id,exitTo id (.inScope c::k)=exitTo id k:=λid=>by simp[exitTo]
 cases e with
 |normal=>exact⟨.normal,a₁,w₁,hq,.head h0 Qha (StepsIn.trans harr (.one (fenced_calm hb hr rfl) Qwk))⟩
 |exit id=>exact⟨.exit id,a₁,w₁,hq,λk' hk=>.head h0 Qha (harr.1 k' (by rw[hx]; exact hk)),
  λhr' hk=>let ⟨k₁,h1,h2⟩:=harr.2 hr' (by rw[hx]; exact hk); ⟨k₁,h1,.head h0 Qha h2⟩⟩
 |goto l=>exact hg.elim
 |ret=>exact⟨_,a₁,w₁,hq,.of_steps (.one h0 Qha) harr⟩
 |panic ch=>exact⟨_,a₁,w₁,hq,.of_steps (.one h0 Qha) harr⟩
 |outgrown=>exact⟨_,a₁,w₁,hq,.of_steps (.one h0 Qha) harr⟩
end
structure DB where
 n0:Nat
 base:List Deferred
 ro:Option Nat
def QcD (D:Nat):Deferred:={ target:=.collected D,args := #[] }
structure DB.Ok (d:DB) (w:ZM) (ds:List Deferred):Prop where
 le:d.n0<=w.heap.size
 ms:∃ ms:List Nat,ds=ms.map QcD++d.base/\ms.Nodup/\∀ D∈ms,d.n0<=D/\w.heap[D]? = some (.deferred (some []))
 ro:∀ l,d.ro=some l->∃ r,w.heap[l]? = some (.loop r)
theorem DB.Ok.drew {d:DB} {w:ZM} {ds:List Deferred} (h:d.Ok w ds):d.Ok w.drew ds:=⟨h.le,h.ms,h.ro⟩
section
variable [QR] [QP] [Qv]
inductive J where
 |p (i:I)
 |e (i:E)
 |q (f:Od) (args:List Od)
structure Ins where
 d:Option Nat
 g:Option (Nat×Bool)
 j:J
inductive XE where
 |normal
 |exit (id:Nat)
 |goto (l:Nat)
 |ret
 |panic (x:SV)
abbrev ZF:=XE->Env->ZG->Prop
inductive Out where
 |ret (r:SV)
 |pan (x:SV)
def Ok (P:ZL) (f:ZN) (args:ZH) (H:ZG) (out:Out) (H':ZG):Prop :=
 (∀ (vs:Array Value) (w:ZM),(callFunc f vs).run P w=.ok (.enter f vs) w) /\
 ∀ (S:St) (vs:ZI),S.H=H->Sim S->VRs S args vs ->
  Calls P f vs.toArray S.w λe w'=>∃ (v:Value) (ρ':Nat->Option Nat),Ext S.H.length S ⟨ρ',H',w'⟩/\Sim ⟨ρ',H',w'⟩ /\
   match out with
   |.ret r=>e=.returned v/\VR ⟨ρ',H',w'⟩ r v
   |.pan x=>e=.panicked [{ v:=v,recovered:=false }]/\VR ⟨ρ',H',w'⟩ x v
def OkP (P:ZL) (f:ZN) (args:ZH) (H:ZG) (Pt:Out->ZG->Prop):Prop :=
 (∀ (vs:Array Value) (w:ZM),(callFunc f vs).run P w=.ok (.enter f vs) w) /\
 ∀ (S:St) (vs:ZI),S.H=H->Sim S->VRs S args vs ->
  Calls P f vs.toArray S.w λe w'=>∃ (out:Out) (H':ZG) (v:Value) (ρ':Nat->Option Nat),Pt out H'/\Ext S.H.length S ⟨ρ',H',w'⟩/\Sim ⟨ρ',H',w'⟩ /\
   match out with
   |.ret r=>e=.returned v/\VR ⟨ρ',H',w'⟩ r v
   |.pan x=>e=.panicked [{ v:=v,recovered:=false }]/\VR ⟨ρ',H',w'⟩ x v
theorem Ok.toP {P:ZL} {f:ZN} {args:ZH} {H:ZG} {out:Out} {H':ZG} (h:Ok P f args H out H'):OkP P f args H λo h=>o=out/\h=H':=by
 refine⟨h.1,λS vs h1 h2 h3=>(h.2 S vs h1 h2 h3).mono ?_⟩;rintro e w ⟨v,ρ',h4,h5,h6⟩;exact⟨out,H',v,ρ',⟨rfl,rfl⟩,h4,h5,h6⟩
theorem OkP.mono {P:ZL} {f:ZN} {args:ZH} {H:ZG} {Pt Pt':Out->ZG->Prop} (h:OkP P f args H Pt) (hp:∀ o h,Pt o h->Pt' o h):OkP P f args H Pt':=by
 refine⟨h.1,λS vs h1 h2 h3=>(h.2 S vs h1 h2 h3).mono ?_⟩;rintro e w ⟨out,H',v,ρ',h0,h4⟩;exact⟨out,H',v,ρ',hp _ _ h0,h4⟩
def YlP (P:ZL) (i:Nat) (args:ZH) (H:ZG) (Pt:Out->ZG->Prop):Prop :=
 (∃ o,H[i]? = some o/\o.ver=0)/\∀ (S:St) (vs:ZI) (l:Nat),S.H=H->Sim S->VRs S args vs->S.ρ i=some l ->
  ∃ r,S.w.heap[l]? = some (Obj.loop r)/\vs.length=r.params.size /\
   RoundIn (Fr none) 0 P l r.fn ((r.params.zip vs.toArray).foldl (λtmps (t,a)=>tmps.setIfInBounds t a) r.tmps) r.assign r.body S.w λe w' =>
    ∃ (out:Out) (H':ZG) (v:Value) (ρ':Nat->Option Nat),Pt out H'/\Ext S.H.length S ⟨ρ',H',w'⟩/\Sim ⟨ρ',H',w'⟩ /\
     match out with
     |.ret r=>e=.returned v/\VR ⟨ρ',H',w'⟩ r v
     |.pan x=>e=.panicked [{ v:=v,recovered:=false }]/\VR ⟨ρ',H',w'⟩ x v
def OkC (P:ZL) (f:SV) (args:ZH) (H:ZG) (out:Out) (H':ZG):Prop :=
 f.vd=true/\match f.ug with
 |.fn (.func k) first cap=>Ok P k (first++args++cap) H out H'
 |_=>False
def QfB (P:ZL) (f:SV) (args:ZH) (H:ZG) (Pt:Out->ZG->Prop):Prop :=
 f.vd=true/\match f.ug with
 |.fn (.func k) first cap=>OkP P k (first++args++cap) H Pt
 |.yl i=>YlP P i args H Pt
 |_=>False
theorem OkC.toP {P:ZL} {f:SV} {args:ZH} {H:ZG} {out:Out} {H':ZG} (h:OkC P f args H out H'):QfB P f args H λo h=>o=out/\h=H':=by
 refine⟨h.1,?_⟩;have h2:=h.2;split at h2
 . rename_i hf;rw[hf];exact h2.toP
 . exact h2.elim
def SV.on (want:Bool):SV->Bool
 |.val (.bool b)=>b==want
 |.gd b x=>b&&x.on want
 |_=>false
def SV.bish:SV->Bool
 |.val (.bool _)=>true
 |.gd _ x=>x.bish
 |_=>false
def xj (P:ZL) (o:Ins) (env:Env) (H:ZG) (K:ZF):Prop :=
 match o.j with
 |.p i=>(pv i env.ev H).1/\K .normal (env.put o.d (pv i env.ev H).2) H
 |.e (.call f args)=>∃ Pt:Out->ZG->Prop,QfB P (env.ev f) (args.map env.ev) H Pt/\∀ out H',Pt out H' ->
  match out with
  |.ret r=>K .normal (env.put o.d r) H'
  |.pan x=>K (.panic x) env H'
 |.e (.pan x)=>(env.ev x).vd=true/\match (env.ev x).ug with
  |.ifc t y=>K (.panic (.ifc t y)) env H
  |_=>False
 |.e i=>xe i env.ev H λv H'=>K .normal (env.put o.d v) H'
 |.q f args=>∃ r,OkC P (env.ev f) (args.map env.ev) H (.ret r) H/\K .normal (env.put o.d r) H
def xo (P:ZL) (o:Ins) (env:Env) (H:ZG) (K:ZF):Prop :=
 match o.g with
 |none=>xj P o env H K
 |some (s,want) =>
  (env.get s).bish=true /\
  match o.j with
  |.p i=>((env.get s).on want=true->(pv i env.ev H).1)/\K .normal (env.put o.d (.gd ((env.get s).on want) (pv i env.ev H).2)) H
  |.q f args=>∃ r,((env.get s).on want=true->OkC P (env.ev f) (args.map env.ev) H (.ret r) H)/\K .normal (env.put o.d (.gd ((env.get s).on want) r)) H
  |.e _=>((env.get s).on want=true->xj P o env H K)/\((env.get s).on want=false->K .normal (env.put o.d (.val undef)) H)
def QbK (P:ZL):List Ins->Env->ZG->(ZF)->Prop
 |[],env,H,K=>K .normal env H
 |o::r,env,H,K=>xo P o env H λx env H =>
  match x with
  |.normal=>QbK P r env H K
  |x=>K x env H
def ER (S:St):XE->Exit->Prop
 |.normal,.normal=>True
 |.exit i,.exit j=>i=j
 |.goto i,.goto j=>i=j
 |.ret,.ret=>True
 |.panic x,.panic ch=>∃ v,ch=[{ v:=v,recovered:=false }]/\VR S x v
 |_,_=>False
def Qaz (S:St) (N:Nat) (d:DB) (K:ZF):Exit->Act->ZM->Prop:=λe a w =>
 ∃ x env ρ H,ER ⟨ρ,H,w⟩ x e/\Ext S.H.length S ⟨ρ,H,w⟩/\Sim ⟨ρ,H,w⟩/\QJ ⟨ρ,H,w⟩ env a.tmps/\a.tmps.size=N/\d.Ok w a.defers/\K x env H
theorem DB.Ok.ext {d:DB} {S S':St} {n:Nat} {ds:List Deferred} (h:d.Ok S.w ds) (hS:Sim S) (he:Ext n S S'):d.Ok S'.w ds:=by
 refine⟨Vi h.le he.size,?_,λl hl=>let ⟨r,h1⟩:=h.ro l hl; he.loops l r h1⟩
 obtain⟨ms,h1,h2,h3⟩:=h.ms;refine⟨ms,h1,h2,λD hD=>⟨(h3 D hD).1,?_⟩⟩;have h4:=(h3 D hD).2;refine((he.imm D (QcU h4) ?_).1).trans h4;rintro⟨i,o,ho,hl,hρ⟩;rcases hS.own ho hl hρ with ⟨c,h5⟩|⟨r,h5⟩|⟨es,cl,h5⟩<;>(rw[h4]at h5; cases h5)
def Qsr (sz:Nat) (s:SV):Bool:=match s with|.agg l=>l.length==sz&&l.all SV.isCell|_=>false
def QmG (P:ZL) (op:Op) (T:ZK) (sz len:Nat) (z:ZH) (parts:List (Nat×SV)):Bool :=
 let cells:=Qbk (List.replicate len z).flatten (parts.map λp=>(p.1*sz,p.2))
 Qbz P op (.bsl T sz len z (parts.map λp=>(p.1,Od.c p.2)))&&cells.all SV.isCell&&SV.underL 0 cells&&cells.length==len*sz&&parts.all λp=>decide (p.1*sz+sz<=len*sz)&&Qsr sz p.2
def Qoo (P:ZL) (op:Op) (j:J):Bool :=
 match j with
 |.p (.kro T sz len z parts)=>QmG P op T sz len z parts
 |.p i=>Qag P op i
 |.e i=>Qbz P op i
 |.q f args=>Qbz P op (.call f args)
def QdR (P:ZL) (N:Nat) (ops:Array Oper) (o:Oper) (o':Ins):Bool :=
 o.dst==o'.d&&(match o.dst with|some d=>decide (d<N)|none=>true) &&
 (match o.guard,o'.g with
  |none,none=>true
  |some (j,want),some (s,want')=>want==want'&&((ops[j]?).bind (·.dst)==some s)
  |_,_=>false)&&Qoo P o.op o'.j
section
variable {P:ZL} {S:St} {env:Env} {a:Act} {N:Nat} {d:DB}
def Qio:Value->Option Bool
 |.bool b=>some b
 |_=>none
theorem QBh {x:SV} {v:Value} {want:Bool} (h:VR S x v) (hb:x.bish=true):(Qio v==some want)=x.on want:=by
 induction h with
 |val v=>cases v<;>simp_all [SV.bish,SV.on,Qio]
 |gd b x v h0 h ih =>
  simp only[SV.bish]at hb;simp only[SV.on]
  cases b with
  |true=>simpa using ih rfl hb
  |false=>rw[h0 rfl]; simp[undef,Qio]
 |_=>simp[SV.bish]at hb
theorem Qzw {ops:Array Oper} {j s:Nat} (hj:(ops[j]?).bind (·.dst)=some s) (tmps:Array Value) :
 yielded ops tmps j=Qio (tmps.getD s undef):=by
 unfold yielded;rw[hj];simp only[Option.bind_some,VQ]
 cases h:tmps[s]? with
 |none=>simp[undef,Qio]
 |some v=>simp only[VX]; cases v<;>rfl
def Qgg (P:ZL) (ops:Array Oper) (o:Oper) (a:Act) (w:ZM) (next:Act->ZM->Prop) (Q:Exit->Act->ZM->Prop):Prop :=
 if Region.wanted o (yielded ops a.tmps)then o.wq P a w next Q else next (a.put o.dst undef) w
theorem QtI (hS:Sim S) (he:QJ S env a.tmps) {o:Oper} {f:Od} {args:List Od} (hc:Qbz P o.op (.call f args)=true) {Pt:Out->ZG->Prop}
   (hok:QfB P (env.ev f) (args.map env.ev) S.H Pt) {next:Act->ZM->Prop} {Q:Exit->Act->ZM->Prop}
   (h1:∀ out H' v ρ' w',Pt out H'->Ext S.H.length S ⟨ρ',H',w'⟩->Sim ⟨ρ',H',w'⟩ ->
     (match out with
      |.ret r=>VR ⟨ρ',H',w'⟩ r v->next (a.put o.dst v) w'
      |.pan x=>VR ⟨ρ',H',w'⟩ x v->Q (.panic [{ v:=v,recovered:=false }]) a w')):o.wq P a S.w next Q:=by
 generalize hop:o.op=op at hc;simp only[Qbz]at hc;split at hc
 . rename_i f' as ts;simp only[Va]at hc;have hf:=QA hc.1 he;have has:=Qj2 hc.2 he;obtain⟨hvd,hok⟩:=hok;have hf':=hf.ug hvd;split at hok
   . rename_i k first cap hug
     rw[hug]at hf';obtain⟨us,vs,hv,hus,hvs⟩:=hf'.fn_inv;obtain⟨hent,hcall⟩:=hok;have hcalls:=hcall S (us++as.toList.map a.eval++vs) rfl hS ((hus.append has).append hvs);have hrun:(execOp a.eval o).run P S.w=.ok (.enter k (us++as.toList.map a.eval++vs).toArray) S.w:=by
       have e1:us.toArray++as.map a.eval++vs.toArray=(us++as.toList.map a.eval++vs).toArray:=by apply Ys; simp
       simp only[execOp,hop,resolve,hv,Deferred.ofValue,Sem.run_bind,Sem.run_pure,Result.andThen_ok,invoke];rw[e1,hent]
     unfold Oper.wq;rw[hrun,Oper.uponIn_enter];refine⟨QjZ,callsIn_wide.2 (hcalls.mono ?_)⟩;rintro e w' ⟨out,H',v,ρ',hpt,hext,hsim,hout⟩
     cases out with
     |ret r=>obtain⟨rfl,hvr⟩:=hout; exact h1 _ H' v ρ' w' hpt hext hsim hvr
     |pan x=>obtain⟨rfl,hvr⟩:=hout; exact h1 _ H' v ρ' w' hpt hext hsim hvr
   . rename_i i hug;rw[hug]at hf';obtain⟨⟨o1,ho1,hv1⟩,hok⟩:=hok;generalize hfv:a.eval f'=fv at hf'
     cases hf' with
     |yl _ l o2 ho2 hρ =>
       rw[ho1]at ho2; cases ho2
       obtain⟨r,hr,hlen,hround⟩:=hok S (as.toList.map a.eval) l rfl hS has (hρ hv1);have hrun:(execOp a.eval o).run P S.w=.ok (.round l r.fn ((r.params.zip (as.toList.map a.eval).toArray).foldl (λtmps (t,a)=>tmps.setIfInBounds t a) r.tmps) r.assign r.body) S.w:=by
         have hy:=run_yield (P:=P) (args:=(as.toList.map a.eval).toArray) hr (by simpa using hlen);have e1:as.map a.eval=(as.toList.map a.eval).toArray:=by apply Ys; simp
         simp only[execOp,hop,resolve,hfv,Deferred.ofValue,Sem.run_bind,Sem.run_pure,Result.andThen_ok,invoke];simpa[e1]using hy
       unfold Oper.wq;rw[hrun,Oper.uponIn_round];refine⟨QjZ,hround.mono ?_⟩;rintro e w' ⟨out,H',v,ρ',hpt,hext,hsim,hout⟩
       cases out with
       |ret r=>obtain⟨rfl,hvr⟩:=hout; exact h1 _ H' v ρ' w' hpt hext hsim hvr
       |pan x=>obtain⟨rfl,hvr⟩:=hout; exact h1 _ H' v ρ' w' hpt hext hsim hvr
   . exact hok.elim
 . cases hc
theorem QtE (hS:Sim S) (he:QJ S env a.tmps) {o:Oper} {f:Od} {args:List Od} (hc:Qbz P o.op (.call f args)=true) {out:Out} {H':ZG}
   (hok:OkC P (env.ev f) (args.map env.ev) S.H out H') {next:Act->ZM->Prop} {Q:Exit->Act->ZM->Prop}
   (h1:∀ v ρ' w',Ext S.H.length S ⟨ρ',H',w'⟩->Sim ⟨ρ',H',w'⟩ ->
     (match out with
      |.ret r=>VR ⟨ρ',H',w'⟩ r v->next (a.put o.dst v) w'
      |.pan x=>VR ⟨ρ',H',w'⟩ x v->Q (.panic [{ v:=v,recovered:=false }]) a w')):o.wq P a S.w next Q :=
 QtI hS he hc hok.toP λo h v ρ' w' hp he hs=>by
   obtain⟨rfl,rfl⟩:=hp
   cases o<;>exact h1 v ρ' w' he hs
theorem Qis (a:Act) (d:Option Nat) (v:Value):(a.put d v).tmps.size=a.tmps.size:=by cases d<;>simp[Act.put]
theorem QiQ (a:Act) (d:Option Nat) (v:Value):(a.put d v).defers=a.defers:=by cases d<;>rfl
theorem thaw {S:St} (hS:Sim S) {H0:ZG} {cells:ZH} {T:ZK} {len sz:Nat} {v:Value} (hH:S.H=H0++[⟨cells,T,0,true⟩]) (hcl:∀ (i:Nat) (o:AO),H0[i]? = some o->∀ s∈o.cells,s.under H0.length=true)
 (hu:SV.underL H0.length cells=true) (hlen:cells.length=len*sz) (hv:VR S (.own H0.length 0 len sz 0) v) :
 Ext H0.length S ⟨S.ρ,H0,S.w⟩/\Sim ⟨S.ρ,H0,S.w⟩/\VR ⟨S.ρ,H0,S.w⟩ (.slc cells len) v:=by
 have hle:H0.length<=S.H.length:=by rw[hH]; simp
 have ht:S.H.take H0.length=H0:=by rw[hH]; simp
 have h1:=Qh7 (S:=S) hle;have h2:=QyB hS hle (λi o hi ho=>hcl i o (by rw[hH,Vc hi]at ho; exact ho));rw[ht]at h1 h2;refine⟨h1,h2,?_⟩;have hat:S.H[H0.length]? = some ⟨cells,T,0,true⟩:=by rw[hH]; simp
 have hl:=hS.live _ _ hat rfl;have zero:len=0->cells=[]:=λh=>VJ (by rw[hlen,h,Yi]);have none_:∀ (ad:ZJ) (cap:Nat),len=0->(ad=none->cap=0)->VR ⟨S.ρ,H0,S.w⟩ (.slc cells len) (.slice ad len cap):=by
  intro ad cap h0 hc;rw[zero h0,h0]
  cases ad with
  |none=>rw[hc rfl]; exact .nilslc
  |some ad=>exact .slc [] 0 ad cap [] (V3 _) rfl ⟨λj u hj=>by simp at hj,λhne=>absurd rfl hne,Qgq⟩ λj s u hj=>by simp at hj
 cases hv with
 |own _ _ _ _ _ ad cap o ho hvv hc hz h =>
  rw[hat]at ho; cases ho
  have h3:=h rfl;unfold St.OwnAt at h3
  cases hρ:S.ρ H0.length with
  |none =>
   rw[hρ]at h3;exact none_ ad cap h3.1 λ_=>h3.2
  |some b =>
   rw[hρ]at h3 hl;obtain⟨us,rest,hh,hvr⟩:=hl;rcases h3 with h3|⟨rfl,_⟩
   . exact none_ ad cap (by omega) λ_=>h3
   . have hvr':=hvr.extB h1 hu;refine .slc cells len _ cap us hc hvr'.1 ⟨?_,λ_ hr => ?_,λ_ _=>.inl ⟨_,_,hh⟩⟩ hvr'.2
     . intro j u hj;have hadd:(⟨b,0,none⟩:Addr).add j=⟨b,j,none⟩:=by unfold Addr.add; split<;>simp_all
       rw[hadd];unfold World.cell?;simp only[hh,Yq,Vw,Zu];simp[Vc (Ql hj),hj]
     . obtain⟨i,o,ho,hl',hρ'⟩:=hr;have hi:i<H0.length:=Ql ho;have ho':S.H[i]? = some o:=by rw[hH,Vc hi]; exact ho
       have:=hS.inj i H0.length o _ b ho' hat hl' (AO.own_live rfl) hρ' hρ;omega
theorem Qty (hS:Sim S) (he:QJ S env a.tmps) {o:Oper} {T:ZK} {sz len:Nat} {z:ZH} {parts:List (Nat×SV)} (hc:QmG P o.op T sz len z parts=true) :
 ∃ v ρ' w',(execOp a.eval o).run P S.w=.ok (.value v) w'/\Ext S.H.length S ⟨ρ',S.H,w'⟩/\Sim ⟨ρ',S.H,w'⟩/\VR ⟨ρ',S.H,w'⟩ (.slc (Qbk (List.replicate len z).flatten (parts.map λp=>(p.1*sz,p.2))) len) v:=by
 unfold QmG at hc;simp only[Va,Zr,Vn,Zq]at hc;obtain⟨⟨⟨⟨h1,h2⟩,h3⟩,h4⟩,h5⟩:=hc;have hm:(parts.map λp=>(p.1,Od.c p.2)).map (λp=>(p.1*sz,env.ev p.2))=parts.map λp=>(p.1*sz,p.2):=by
  rw[Yk]; rfl
 obtain⟨nv,S',sv,hrun,hext,hsim,hvr,rfl,hH⟩:=Qtv (o:=o) hS he h1 rfl (K:=λsv H'=>sv=.own S.H.length 0 len sz 0/\H'=S.H++[⟨Qbk (List.replicate len z).flatten (parts.map λp=>(p.1*sz,p.2)),T,0,true⟩]) (by
  refine⟨?_,?_,?_⟩
  . intro p hp;obtain⟨q,hq,rfl⟩:=Vx.1 hp;obtain⟨k1,k2⟩:=h5 q hq;refine⟨?_,k1⟩;unfold Qsr at k2;split at k2
    . rename_i l hl;rw[Va,Zr]at k2;show QaY sz (env.ev (.c q.2));simp only[Env.ev,hl];exact⟨k2.1,rfl⟩
    . cases k2
  . rw[hm]; exact h2
  . rw[hm]; exact⟨rfl,rfl⟩)
 obtain⟨k1,k2,k3⟩:=thaw hsim hH (λi o ho=>λs hs=>(hS.bel i o ho s hs).1) (SV.underL_mono (V3 _) _ h3) h4 hvr;refine⟨nv,S'.ρ,S'.w,?_,hext.trans (k1.mono (Vb _)),k2,k3⟩;rcases hrun with hrun|⟨hrun,h0⟩
 . exact hrun
 . subst h0; cases hvr
theorem QoW (hS:Sim S) (he:QJ S env a.tmps) (hN:a.tmps.size=N) (hd:d.Ok S.w a.defers) {o:Oper} {o':Ins} (hdst:o.dst=o'.d) (hlt:∀ t,o.dst=some t->t<N) (hc:Qoo P o.op o'.j=true)
 {K:ZF} (h:xj P o' env S.H K) {next:Act->ZM->Prop} {Q:Exit->Act->ZM->Prop}
 (hnext:∀ a' w',Qaz S N d K .normal a' w'->next a' w') (hQ:∀ ch a' w',Qaz S N d K (.panic ch) a' w'->Q (.panic ch) a' w'):o.wq P a S.w next Q:=by
 have hlt':∀ t,o.dst=some t->t<a.tmps.size:=by rw[hN]; exact hlt
 have fin:∀ (v:Value) (s:SV) (ρ':Nat->Option Nat) (H':ZG) (w':ZM),Ext S.H.length S ⟨ρ',H',w'⟩->Sim ⟨ρ',H',w'⟩->VR ⟨ρ',H',w'⟩ s v->K .normal (env.put o'.d s) H'->next (a.put o.dst v) w':=by
  intro v s ρ' H' w' h1 h2 h3 h4;refine hnext _ _ ⟨.normal,env.put o'.d s,ρ',H',trivial,h1,h2,?_,by rw[Qis,hN],by rw[QiQ]; exact hd.ext hS h1,h4⟩;rw[<-hdst];exact(he.ext h1).put hlt' h3
 unfold xj at h
 cases hj:o'.j with
 |p i =>
  rw[hj]at h hc;obtain⟨h1,h2⟩:=h;have key:∃ v ρ' w',(execOp a.eval o).run P S.w=.ok (.value v) w'/\Ext S.H.length S ⟨ρ',S.H,w'⟩/\Sim ⟨ρ',S.H,w'⟩/\VR ⟨ρ',S.H,w'⟩ (pv i env.ev S.H).2 v:=by
   by_cases hk:∃ T sz len z parts,i=.kro T sz len z parts
   . obtain⟨T,sz,len,z,parts,rfl⟩:=hk;exact Qty hS he hc
   . have hc':Qag P o.op i=true:=by
      cases i<;>first|exact hc|exact absurd ⟨_,_,_,_,_,rfl⟩ hk
     obtain⟨v,hrun,hv⟩:=Qtw hS he hc' h1;exact⟨v,S.ρ,S.w,hrun,Ext.refl _ S,hS,hv⟩
  obtain⟨v,ρ',w',hrun,hext,hsim,hv⟩:=key;unfold Oper.wq;rw[hrun,Oper.uponIn_value];exact fin v _ ρ' S.H w' hext hsim hv h2
 |q f args =>
  rw[hj]at h hc;obtain⟨r,h1,h2⟩:=h;refine QtE hS he hc h1 λv ρ' w' hext hsim hv => ?_;exact fin v r ρ' S.H w' hext hsim hv h2
 |e i =>
  rw[hj]at h hc;by_cases hcall:i.isCall=true
  . cases i<;>simp[E.isCall]at hcall
    case call f args =>
     obtain⟨Pt,h1,h2⟩:=h;refine QtI hS he hc h1 λout H' v ρ' w' hpt hext hsim => ?_;have h2:=h2 out H' hpt
     cases out with
     |ret r=>exact λhv=>fin v r ρ' H' w' hext hsim hv h2
     |pan x =>
      intro hv;exact hQ _ _ _ ⟨.panic x,env,ρ',H',⟨v,rfl,hv⟩,hext,hsim,he.ext hext,hN,hd.ext hS hext,h2⟩
    case pan x =>
     obtain⟨hvd,h2⟩:=h;generalize hop:o.op=op at hc;simp only[Qoo,Qbz]at hc;split at hc
     . rename_i x0;have hx':=(QA hc he).ug hvd;split at h2
       . rename_i t y hug;rw[hug]at hx';generalize hv:a.eval x0=v at hx'
         cases hx' with
         |ifc _ _ v hy =>
          unfold Oper.wq;have hrun:(execOp a.eval o).run P S.w=.halt (.panic (.iface t v)) S.w:=by
           simp only[execOp,hop,hv,Instr.panic]; rfl
          rw[hrun,Oper.uponIn_panic];exact hQ _ _ _ ⟨.panic (.ifc t y),env,S.ρ,S.H,⟨_,rfl,.ifc _ _ _ hy⟩,Ext.refl _ S,hS,he,hN,hd,h2⟩
       . exact h2.elim
     . cases hc
  . have hcall':i.isCall=false:=by simpa using hcall
    have h':xe i env.ev S.H λv H'=>K .normal (env.put o'.d v) H':=by
     cases i<;>first|exact h|simp[E.isCall]at hcall'
    obtain⟨nv,S',sv,hrun,hext,hsim,hvr,hK⟩:=Qtv (o:=o) hS he hc hcall' h';unfold Oper.wq;rcases hrun with hrun|⟨hrun,rfl⟩
    . rw[hrun,Oper.uponIn_value]; exact fin nv sv S'.ρ S'.H S'.w hext hsim hvr hK
    . rw[hrun,Oper.uponIn_skip]; exact fin _ sv S'.ρ S'.H S'.w hext hsim hvr hK
theorem QhJ (hS:Sim S) (he:QJ S env a.tmps) (hN:a.tmps.size=N) (hd:d.Ok S.w a.defers) {ops:Array Oper} {o:Oper} {o':Ins} (hc:QdR P N ops o o'=true)
 {K:ZF} (h:xo P o' env S.H K) {next:Act->ZM->Prop} {Q:Exit->Act->ZM->Prop}
 (hnext:∀ a' w',Qaz S N d K .normal a' w'->next a' w') (hQ:∀ ch a' w',Qaz S N d K (.panic ch) a' w'->Q (.panic ch) a' w'):Qgg P ops o a S.w next Q:=by
 unfold QdR at hc;rw[Va,Va,Va,Zr]at hc;obtain⟨⟨⟨hdst,hlt0⟩,hg⟩,hj⟩:=hc;have hlt:∀ t,o.dst=some t->t<N:=by intro t ht; rw[ht]at hlt0; simpa using hlt0
 have hlt':∀ t,o.dst=some t->t<a.tmps.size:=by rw[hN]; exact hlt
 unfold Qgg;unfold xo at h
 cases hog:o.guard with
 |none =>
  rw[hog]at hg
  cases hog':o'.g with
  |some x=>rw[hog']at hg; cases hg
  |none =>
   rw[hog']at h;rw[Zo (by simp[Region.wanted,hog])];exact QoW hS he hN hd hdst hlt hj h hnext hQ
 |some jw =>
  obtain⟨j,want⟩:=jw;rw[hog]at hg
  cases hog':o'.g with
  |none=>rw[hog']at hg; cases hg
  |some sw =>
   obtain⟨s,want'⟩:=sw;rw[hog']at hg h;simp only[Va,Zr]at hg;obtain⟨rfl,hs⟩:=hg;simp only at h;obtain⟨hb,h⟩:=h;have hw:Region.wanted o (yielded ops a.tmps)=(env.get s).on want:=by
    unfold Region.wanted;rw[hog];simp only;rw[Qzw hs];exact QBh (he.get s) hb
   rw[hw];have skip:∀ (sv:SV),(env.get s).on want=false->VR S sv undef->K .normal (env.put o'.d sv) S.H->next (a.put o.dst undef) S.w:=by
    intro sv hoff hv hK;refine hnext _ _ ⟨.normal,env.put o'.d sv,S.ρ,S.H,trivial,Ext.refl _ S,hS,?_,by rw[Qis,hN],by rw[QiQ]; exact hd,hK⟩;rw[<-hdst];exact he.put hlt' hv
   cases hoj:o'.j with
   |p i =>
    rw[hoj]at h hj;obtain⟨h1,h2⟩:=h
    cases hon:(env.get s).on want with
    |true =>
     rw[Zo rfl];have key:∃ v ρ' w',(execOp a.eval o).run P S.w=.ok (.value v) w'/\Ext S.H.length S ⟨ρ',S.H,w'⟩/\Sim ⟨ρ',S.H,w'⟩/\VR ⟨ρ',S.H,w'⟩ (pv i env.ev S.H).2 v:=by
      by_cases hk:∃ T sz len z parts,i=.kro T sz len z parts
      . obtain⟨T,sz,len,z,parts,rfl⟩:=hk;exact Qty hS he hj
      . have hc':Qag P o.op i=true:=by
         cases i<;>first|exact hj|exact absurd ⟨_,_,_,_,_,rfl⟩ hk
        obtain⟨v,hrun,hv⟩:=Qtw hS he hc' (h1 hon);exact⟨v,S.ρ,S.w,hrun,Ext.refl _ S,hS,hv⟩
     obtain⟨v,ρ',w',hrun,hext,hsim,hv⟩:=key;unfold Oper.wq;rw[hrun,Oper.uponIn_value];refine hnext _ _ ⟨.normal,_,ρ',S.H,trivial,hext,hsim,?_,by rw[Qis,hN],by rw[QiQ]; exact hd.ext hS hext,h2⟩;rw[<-hdst];exact(he.ext hext).put hlt' (.gd _ _ _ (λe=>by rw[hon]at e; cases e) λ_=>hv)
    |false =>
     rw[Zn (by simp)];exact skip _ hon (.gd _ _ _ (λ_=>rfl) λe=>by rw[hon]at e; cases e) h2
   |q f args =>
    rw[hoj]at h hj;obtain⟨r,h1,h2⟩:=h
    cases hon:(env.get s).on want with
    |true =>
     rw[Zo rfl];refine QtE hS he hj (h1 hon) λv ρ' w' hext hsim hv => ?_;refine hnext _ _ ⟨.normal,_,ρ',S.H,trivial,hext,hsim,?_,by rw[Qis,hN],by rw[QiQ]; exact hd.ext hS hext,h2⟩;rw[<-hdst];exact(he.ext hext).put hlt' (.gd _ _ _ (λe=>by rw[hon]at e; cases e) λ_=>hv)
    |false =>
     rw[Zn (by simp)];exact skip _ hon (.gd _ _ _ (λ_=>rfl) λe=>by rw[hon]at e; cases e) h2
   |e i =>
    rw[hoj]at h;simp only at h
    cases hon:(env.get s).on want with
    |true =>
     rw[Zo rfl];exact QoW hS he hN hd hdst hlt hj (h.1 hon) hnext hQ
    |false =>
     rw[Zn (by simp)];exact skip _ hon (.val _) (h.2 hon)
theorem Qaz.trans {S S':St} {K:ZF} {e:Exit} {a:Act} {w:ZM} (he:Ext S.H.length S S') (h:Qaz S' N d K e a w):Qaz S N d K e a w:=by
 obtain⟨x,env,ρ,H,h1,h2,h3⟩:=h;exact⟨x,env,ρ,H,h1,he.trans (h2.mono (he.len (Vb _))),h3⟩
def chkL (P:ZL) (N:Nat) (ops:Array Oper):List Oper->List Ins->Bool
 |[],[]=>true
 |o::r,o'::r'=>QdR P N ops o o'&&chkL P N ops r r'
 |_,_=>false
theorem QnA {ops:Array Oper} {K:ZF}:∀ (l:List Oper) (l':List Ins) {S:St} {env:Env} {a:Act},Sim S->QJ S env a.tmps->a.tmps.size=N->d.Ok S.w a.defers ->
 chkL P N ops l l'=true->QbK P l' env S.H K->QdQ P ops (Qaz S N d K) l a S.w
 |[],[],S,env,a,hS,he,hN,hd,_,h=>⟨.normal,env,S.ρ,S.H,trivial,Ext.refl _ S,hS,he,hN,hd,h⟩
 |[],_::_,S,env,a,hS,he,hN,hd,hc,h=>by simp[chkL]at hc
 |_::_,[],S,env,a,hS,he,hN,hd,hc,h=>by simp[chkL]at hc
 |o::r,o'::r',S,env,a,hS,he,hN,hd,hc,h=>by
  simp only[chkL,Va]at hc;refine Quz λK' hK' => ?_;have hstep:=QhJ (Q:=Qaz S N d K) hS he hN hd hc.1 (by simpa only[QbK]using h) (next:=K') (by
   rintro a' w' ⟨x,env',ρ',H',hx,hext,hsim,henv,hN',hd',hk⟩;apply hK'
   cases x<;>simp only[ER]at hx
   simp only at hk;have ih:=QnA r r' (S:=⟨ρ',H',w'⟩) hsim henv hN' hd' hc.2 hk;have mono:∀ (l:List Oper) (a:Act) (w:ZM),QdQ P ops (Qaz ⟨ρ',H',w'⟩ N d K) l a w->QdQ P ops (Qaz S N d K) l a w:=by
    intro l
    induction l with
    |nil=>intro a w h; exact Qaz.trans hext h
    |cons o l ih =>
     intro a w h;simp only[QdQ]at h ⊢;split
     . rename_i hw;rw[Zo hw]at h;exact Oper.wq_mono ih (λ_ _ _ _ h=>Qaz.trans hext h) h
     . rename_i hw;rw[Zn hw]at h;exact ih _ _ h
   exact mono r a' w' ih) (by
   rintro ch a' w' ⟨x,env',ρ',H',hx,hrest⟩
   cases x<;>simp only[ER]at hx
   exact⟨.panic _,env',ρ',H',hx,hrest⟩)
  exact hstep
end
end
section
variable [QR] [QP] [Qv]
section
variable {P:ZL}
def Qfp (ops:Array Oper):Nat->Nat->Nat->Bool
 |0,_,_=>false
 |n+1,i,k=>match ops[i]? with
  |none=>false
  |some o=>(o.after.toList.any λe=>Region.binds .any e&&e.on==k)||(o.after.toList.any λe=>Region.binds .any e&&Qfp ops n e.on k)
theorem Qtr {ops:Array Oper} {L:Nat->Prop} (hcl:∀ j o,L j->ops[j]? = some o->∀ e∈o.after,Region.binds .any e=true->L e.on) :
 ∀ (n i k:Nat) (o:Oper),ops[i]? = some o->(∀ e∈o.after,Region.binds .any e=true->L e.on)->Qfp ops n i k=true->L k
 |0,_,_,_,_,_,h=>by cases h
 |n+1,i,k,o,ho,hw,h=>by
  simp only[Qfp,ho,V4,Yt,Va,Zr]at h;rcases h with ⟨e,he,hb,hk⟩|⟨e,he,hb,hr⟩
  . rw[<-hk]; exact hw e (by simpa using he) hb
  . have hL:=hw e (by simpa using he) hb
    cases n with
    |zero=>cases hr
    |succ n =>
     cases ho2:ops[e.on]? with
     |none=>simp[Qfp,ho2]at hr
     |some o2=>exact Qtr hcl (n+1) e.on k o2 ho2 (hcl e.on o2 hL ho2) hr
structure QoP (ops:Array Oper) (n0:Nat):Prop where
 le:n0<=ops.size
 edge:∀ i o,ops[i]? = some o->∀ e∈o.after,Region.binds .any e=true->e.on<i
 guard:∀ i o,i<n0->ops[i]? = some o->∀ g w,o.guard=some (g,w)->g<n0
 all:∀ i o,n0<=i->ops[i]? = some o->∀ k,k<i->Qfp ops ops.size i k=true
structure QlT (ops:Array Oper) (n0:Nat):Prop where
 le:n0<=ops.size
 edge:∀ i o,ops[i]? = some o->∀ e∈o.after,Region.binds .any e=true->e.on<i
 guard:∀ i o,i<n0->ops[i]? = some o->∀ g w,o.guard=some (g,w)->g<n0
 all:∀ i o,n0<=i->ops[i]? = some o->∀ k,k<n0->Qfp ops ops.size i k=true
theorem QoP.wt {ops:Array Oper} {n0:Nat} (h:QoP ops n0):QlT ops n0:=⟨h.le,h.edge,h.guard,λi o hi ho k hk=>h.all i o hi ho k (by omega)⟩
def Qkf (ops:Array Oper) (n0:Nat):Bool :=
 decide (n0<=ops.size)&&(List.range ops.size).all λi=>match ops[i]? with
  |none=>false
  |some o=>(o.after.toList.all λe => !Region.binds .any e||decide (e.on<i)) &&
   (if i<n0 then(match o.guard with|none=>true|some (g,_)=>decide (g<n0))else(List.range n0).all λk=>Qfp ops ops.size i k)
theorem QxV {ops:Array Oper} {n0:Nat} (h:Qkf ops n0=true):QlT ops n0:=by
 unfold Qkf at h;rw[Va,Vn]at h;obtain⟨h1,h2⟩:=h;have key:∀ i o,ops[i]? = some o->(o.after.toList.all λe => !Region.binds .any e||decide (e.on<i))=true /\
  (if i<n0 then(match o.guard with|none=>true|some (g,_)=>decide (g<n0))else(List.range n0).all λk=>Qfp ops ops.size i k)=true:=by
  intro i o ho;have:=h2 i (by rw[V2]; exact(V7.1 ho).1);rw[ho]at this;simpa only[Va]using this
 refine⟨Zw h1,?_,?_,?_⟩
 . intro i o ho e he hb;have:=(key i o ho).1;rw[Vn]at this;have:=this e (by simpa using he);rw[hb]at this;simpa using this
 . intro i o hi ho g w hg;have:=(key i o ho).2;rw[Zo hi,hg]at this;simpa using this
 . intro i o hi ho k hk;have:=(key i o ho).2;rw[Zn (by omega),Vn]at this;exact this k (by rw[V2]; exact hk)
theorem QiF {listed:Array Bool} {i:Nat} (h:i<listed.size):listed.getD i true=listed.getD i false:=by
 simp[VQ,VZ h]
theorem QmJ {ops:Array Oper} (hedge:∀ i o,ops[i]? = some o->∀ e∈o.after,Region.binds .any e=true->e.on<i) {listed:Array Bool} (hsz:listed.size=ops.size) (hr:Region.ready .any ops listed=[]) :
 ∀ i,i<ops.size->listed.getD i false=true:=by
 intro i
 induction i using Nat.strongRecOn with
 |_ i ih =>
  intro hi
  cases h:listed.getD i false with
  |true=>rfl
  |false =>
   have:i∈Region.ready .any ops listed:=by
    rw[mem_ready];refine⟨by rw[QiF (by omega)]; exact h,ops[i],VZ hi,λe he hb => ?_⟩;have:=hedge i ops[i] (VZ hi) e he hb;exact ih e.on this (by omega)
   rw[hr]at this; simp at this
theorem Qiz {listed:Array Bool} {i k:Nat} (hi:i<listed.size):(listed.setIfInBounds i true).getD k false=if k=i then true else listed.getD k false:=by
 simp only[VQ,Yh];by_cases h:i=k
 . subst h; simp[hi]
 . rw[Zn h,Zn (λe=>h e.symm)]
theorem Qzy {ops:Array Oper} {n0:Nat} (ht:QlT ops n0) {Q1 Q:Exit->Act->ZM->Prop} (hq:∀ e a w,e≠.normal->Q1 e a w->Q e a w)
 (hn:∀ (fuel:Nat) (listed:Array Bool) (a:Act) (w:ZM),ops.size-n0<=fuel->listed.size=ops.size->(∀ i,i<n0->listed.getD i false=true)->(∀ i,n0<=i->listed.getD i false=false)->Q1 .normal a w->Qcp P .any ops Q fuel listed a w) :
 ∀ (fuel:Nat) (l1 listed:Array Bool) (a:Act) (w:ZM),l1.size=n0->listed.size=ops.size->(∀ i,i<n0->l1.getD i false=listed.getD i false)->(∀ i,n0<=i->listed.getD i false=false)->(∀ j o,listed.getD j false=true->ops[j]? = some o->∀ e∈o.after,Region.binds .any e=true->listed.getD e.on false=true) ->
  Qcp P .any (ops.extract 0 n0) Q1 fuel l1 a w->Qcp P .any ops Q (fuel+(ops.size-n0)) listed a w:=by
 have hx:∀ i,(ops.extract 0 n0)[i]? = if i<n0 then ops[i]? else none:=by
  intro i;rw[Array.getElem?_extract];have:=ht.le;by_cases h:i<n0
  . rw[Zo h,Zo (by omega)]; simp
  . rw[Zn h,Zn (by omega)]
 have hxs:(ops.extract 0 n0).size=n0:=by have:=ht.le; simp; omega
 have hedge1:∀ i o,(ops.extract 0 n0)[i]? = some o->∀ e∈o.after,Region.binds .any e=true->e.on<i:=by
  intro i o ho;rw[hx]at ho;split at ho
  . exact ht.edge i o ho
  . cases ho
 intro fuel
 induction fuel with
 |zero =>
  intro l1 listed a w hs1 hs hl hu hcl h;obtain⟨hr,hqn⟩:=h;have hall:=QmJ hedge1 (by omega) hr;exact hn _ listed a w (by omega) hs (λi hi=>by rw[<-hl i hi]; exact hall i (by omega)) hu hqn
 |succ fuel ih =>
  intro l1 listed a w hs1 hs hl hu hcl h;obtain⟨h1,h2⟩:=h;by_cases hr:Region.ready .any (ops.extract 0 n0) l1=[]
  . have hall:=QmJ hedge1 (by omega) hr;exact hn _ listed a w (by omega) hs (λi hi=>by rw[<-hl i hi]; exact hall i (by omega)) hu (h1 hr)
  . have hle:=ht.le;have hsome:∃ i,i<n0/\listed.getD i false=false:=by
     obtain⟨i,hi⟩:=List.exists_mem_of_ne_nil _ hr;rw[mem_ready]at hi;obtain⟨g1,o,ho,_⟩:=hi;rw[hx]at ho;by_cases hin:i<n0
     . rw[QiF (by omega)]at g1;exact⟨i,hin,by rw[<-hl i hin]; exact g1⟩
     . rw[Zn hin]at ho; cases ho
    have hfu:fuel+1+(ops.size-n0)=(fuel+(ops.size-n0))+1:=by omega
    rw[hfu];refine⟨λhr2 => ?_,λi hi => ?_⟩
    . obtain⟨i,hin,hi⟩:=hsome;have:=QmJ ht.edge hs hr2 i (by omega);rw[hi]at this; cases this
    . rw[mem_ready]at hi;obtain⟨g1,o,ho,hdeps⟩:=hi;have hin:i<n0:=by
       by_cases hin:i<n0
       . exact hin
       . obtain⟨k,hk,hku⟩:=hsome;have:=Qtr (L:=λt=>listed.getD t false=true) hcl ops.size i k o ho (λe he hb=>hdeps e he hb) (ht.all i o (by omega) ho k hk);rw[hku]at this; cases this
      have hi1:i∈Region.ready .any (ops.extract 0 n0) l1:=by
       rw[mem_ready];rw[QiF (by omega)]at g1;refine⟨by rw[QiF (by omega),hl i hin]; exact g1,o,by rw[hx,Zo hin]; exact ho,λe he hb => ?_⟩;rw[hl e.on (by have:=ht.edge i o ho e he hb; omega)];exact hdeps e he hb
      have h3:=h2 i hi1;have hnext:∀ a' w',Qcp P .any (ops.extract 0 n0) Q1 fuel (l1.setIfInBounds i true) a' w'->Qcp P .any ops Q (fuel+(ops.size-n0)) (listed.setIfInBounds i true) a' w':=by
       intro a' w' h4;refine ih _ _ a' w' (by simpa using hs1) (by simpa using hs) (λk hk => ?_) (λk hk => ?_) (λm om hm hom e he hb => ?_) h4
       . rw[Qiz (by omega),Qiz (by omega),hl k hk]
       . rw[Qiz (by omega),Zn (by omega)]; exact hu k hk
       . rw[Qiz (by omega)]at hm ⊢;by_cases hei:e.on=i
         . rw[Zo hei]
         . rw[Zn hei];by_cases hmi:m=i
           . subst hmi;rw[ho]at hom; cases hom
             exact hdeps e he hb
           . rw[Zn hmi]at hm;exact hcl m om hm hom e he hb
      unfold Qcc at h3 ⊢;rw[ho];rw[hx,Zo hin,ho]at h3;simp only at h3 ⊢;have hw:Region.wanted o (yielded (ops.extract 0 n0) a.tmps)=Region.wanted o (yielded ops a.tmps):=by
       unfold Region.wanted
       cases hg:o.guard with
       |none=>rfl
       |some gw =>
        obtain⟨g,wnt⟩:=gw;have hgn:=ht.guard i o hin ho g wnt hg;simp only[yielded,hx,Zo hgn]
      rw[hw]at h3;split at h3
      . rename_i hwt;rw[Zo hwt];exact Oper.wq_mono hnext hq h3
      . rename_i hwt;rw[Zn hwt];exact hnext _ _ h3
theorem Qyl {ops:Array Oper} {Q:Exit->Act->ZM->Prop} {i:Nat} {o:Oper} {a:Act} {w:ZM} {next:Act->ZM->Prop} (ho:ops[i]? = some o) (h:Qgg P ops o a w next Q):Qcc P ops Q i next a w:=by
 unfold Qcc;rw[ho];simp only;unfold Qgg at h;split
 . rename_i hw; rw[Zo hw]at h; exact h
 . rename_i hw; rw[Zn hw]at h; exact h
end
end
section
variable [QR] [QP] [Qv]
def closed (H:ZG):Prop:=∀ (i:Nat) (o:AO),H[i]? = some o->∀ s∈o.cells,s.under H.length=true
theorem Sim.closed {S:St} (h:Sim S):closed S.H:=λi o ho s hs=>(h.bel i o ho s hs).1
theorem VRs.map {S S':St} {l:ZH} {us:ZI} (h:VRs S l us) {f:SV->SV} (hf:∀ s v,VR S s v->VR S' (f s) v):VRs S' (l.map f) us:=by
 refine⟨by simp[h.1],?_⟩;intro j s u h1 h2;rw[Vp]at h1
 cases hj:l[j]? with
 |none=>rw[hj]at h1; cases h1
 |some s0=>rw[hj]at h1; cases h1; exact hf s0 u (h.2 j s0 u hj h2)
def Qbn (ks:List Nat) (k:Nat):Option Nat :=
 match ks with
 |[]=>none
 |x::r=>if x=k then some 0 else(Qbn r k).map (· + 1)
theorem QpD {ks:List Nat} {k p:Nat} (h:Qbn ks k=some p):ks[p]? = some k:=by
 induction ks generalizing p with
 |nil=>simp[Qbn]at h
 |cons x r ih =>
  unfold Qbn at h;split at h
  . rename_i hx; cases h; simp[hx]
  . cases hr:Qbn r k with
    |none=>rw[hr]at h; cases h
    |some q=>rw[hr]at h; cases h; simpa using ih hr
theorem Qql {ks:List Nat} {k p:Nat} (h:Qbn ks k=none):ks[p]? ≠ some k:=by
 induction ks generalizing p with
 |nil=>simp
 |cons x r ih =>
  unfold Qbn at h;split at h
  . cases h
  . rename_i hx
    cases hr:Qbn r k with
    |none=>cases p with
     |zero=>simpa using hx
     |succ p=>simpa using ih hr
    |some q=>rw[hr]at h; cases h
def SV.fz (n:Nat) (ks:List Nat) (L:ZG):Nat->SV->SV
 |0,_=>.any
 |d+1,s =>
  if s.under n=true then s else
  match s with
  |.any=>.any
  |.val v=>.val v
  |.gd _ _=>.any
  |.slc cells len=>.slc (cells.map (SV.fz n ks L d)) len
  |.own i off len sz ver =>
   match L[i-n]? with
   |some o =>
    match Qbn ks (i-n)with
    |some p=>if o.ver=ver then .own (n+p) off len sz 0 else .any
    |none=>if o.live=true/\o.ver=ver/\off+len*sz<=o.cells.length then .slc (((o.cells.drop off).take (len*sz)).map (SV.fz n ks L d)) len else .any
   |none=>.any
  |.ptr (.own i off len sz ver) k =>
   match L[i-n]? with
   |some o =>
    match Qbn ks (i-n)with
    |some p=>if o.ver=ver then .ptr (.own (n+p) off len sz 0) k else .any
    |none=>if o.live=true/\o.ver=ver/\off<o.cells.length then .ptr (.slc ((o.cells.drop off).map (SV.fz n ks L d)) 0) k else .any
   |none=>.any
  |.ptr (.slc cells len) k=>.ptr (.slc (cells.map (SV.fz n ks L d)) len) k
  |.ptr _ _=>.any
  |.agg l=>.agg (l.map (SV.fz n ks L d))
  |.tup l=>.tup (l.map (SV.fz n ks L d))
  |.fn f x y=>.fn f (x.map (SV.fz n ks L d)) (y.map (SV.fz n ks L d))
  |.ifc t x=>.ifc t (SV.fz n ks L d x)
  |.yl _=>.any
  |.lp _ _ _=>.any
  |.mk _=>.any
  |.mp i ver =>
   match L[i-n]? with
   |some o =>
    match Qbn ks (i-n)with
    |some _=>.any
    |none=>if o.live=false/\o.ver=ver then(match o.cells with|.mk kk::vs=>.mpf kk (vs.map (SV.fz n ks L d))|_=>.any)else .any
   |none=>.any
  |.mpf kk vs=>.mpf kk (vs.map (SV.fz n ks L d))
def Qet (n:Nat) (ks:List Nat) (L:ZG) (d:Nat):ZG :=
 ks.map λk=>match L[k]? with
  |some o=>{ cells:=o.cells.map (SV.fz n ks L d),ty:=o.ty,ver:=0,live:=true }
  |none=>{ cells:=[],ty:=0,ver:=0,live:=false }
def Qcw (n:Nat) (ks:List Nat) (L:ZG) (d:Nat):List Nat->Prop
 |[]=>True
 |k::r=>(match L[k]? with
  |some o=>o.live=true/\QD (o.cells.map (SV.fz n ks L d))
  |none=>False)/\k∉r/\Qcw n ks L d r
section
variable {S:St} {H0 L:ZG} {ks:List Nat} {d0:Nat}
def QcF (S:St) (n:Nat) (ks:List Nat):Nat->Option Nat:=λi=>if i<n then S.ρ i else match ks[i-n]? with
 |some k=>S.ρ (n+k)
 |none=>none
def Qa1 (S:St) (H0 L:ZG) (ks:List Nat) (d:Nat):St:=⟨QcF S H0.length ks,H0++Qet H0.length ks L d,S.w⟩
theorem QmZ {n d:Nat}:∀ {l:List Nat},Qcw n ks L d l->∀ {p k:Nat},l[p]? = some k->∃ o,L[k]? = some o/\o.live=true/\QD (o.cells.map (SV.fz n ks L d))
 |[],_,p,k,h=>by simp at h
 |x::r,h,p,k,hp=>by
  cases p with
  |zero =>
   simp at hp; subst hp;have:=h.1
   cases hx:L[x]? with
   |none=>rw[hx]at this; exact this.elim
   |some o=>rw[hx]at this; exact⟨o,rfl,this⟩
  |succ p=>simp at hp; exact QmZ h.2.2 hp
theorem QnG {n d:Nat}:∀ {l:List Nat},Qcw n ks L d l->∀ {p q k:Nat},l[p]? = some k->l[q]? = some k->p=q
 |[],_,p,q,k,h,_=>by simp at h
 |x::r,h,p,q,k,hp,hq=>by
  cases p with
  |zero =>
   cases q with
   |zero=>rfl
   |succ q=>simp at hp hq; subst hp; exact absurd (Vv hq) h.2.1
  |succ p =>
   cases q with
   |zero=>simp at hp hq; subst hq; exact absurd (Vv hp) h.2.1
   |succ q=>simp at hp hq; rw[QnG h.2.2 hp hq]
theorem QfQ (hk:Qcw H0.length ks L d0 ks) {i:Nat} {o:AO} (h:(Qa1 S H0 L ks d0).H[i]? = some o) :
 (i<H0.length/\H0[i]? = some o/\QcF S H0.length ks i=S.ρ i) \/
 (∃ p k o',i=H0.length+p/\ks[p]? = some k/\L[k]? = some o'/\o'.live=true/\QD o.cells /\
  o={ cells:=o'.cells.map (SV.fz H0.length ks L d0),ty:=o'.ty,ver:=0,live:=true }/\QcF S H0.length ks i=S.ρ (H0.length+k)):=by
 simp only[Qa1]at h;by_cases hi:i<H0.length
 . rw[Vc hi]at h;exact .inl ⟨hi,h,by simp[QcF,hi]⟩
 . rw[Vl (by omega)]at h;unfold Qet at h;rw[Vp]at h
   cases hp:ks[i-H0.length]? with
   |none=>rw[hp]at h; cases h
   |some k =>
    rw[hp]at h;obtain⟨o',h1,h2,h3⟩:=QmZ hk hp;simp only[VG,h1]at h
    cases h
    exact .inr ⟨i-H0.length,k,o',by omega,hp,h1,h2,h3,rfl,by simp[QcF,hi,hp]⟩
theorem QiJ (hS:S.H=H0++L) (hk:Qcw H0.length ks L d0 ks) {b:Nat} (h:(Qa1 S H0 L ks d0).rw b) :
 ∃ (i:Nat) (o:AO),S.H[i]? = some o/\o.own=true/\S.ρ i=some b/\(i<H0.length\/∃ p:Nat,ks[p]? = some (i-H0.length)):=by
 obtain⟨i,o,ho,hl,hρ⟩:=h;change QcF S H0.length ks i=some b at hρ;rcases QfQ hk ho with ⟨h1,h2,h3⟩|⟨p,k,o',rfl,h1,h2,h3,_,h4,h5⟩
 . exact⟨i,o,by rw[hS,Vc h1]; exact h2,hl,by rw[<-h3]; exact hρ,.inl h1⟩
 . refine⟨H0.length+k,o',by rw[hS,Vl (by omega)]; simpa using h2,AO.own_live h3,by rw[<-h5]; exact hρ,.inr ⟨p,by simpa using h1⟩⟩
theorem QfD (hS:S.H=H0++L) (hk:Qcw H0.length ks L d0 ks):Ext H0.length S (Qa1 S H0 L ks d0) where
 obj:=λi o hi h=>⟨o,by
  show(H0++_)[i]? = _;rw[Vc hi]; rw[hS,Vc hi]at h; exact h,Vb _,λ_=>by show QcF S H0.length ks i=_; simp[QcF,hi]⟩
 imm:=λk _ hnr=>⟨rfl,λhr=>hnr (by obtain⟨i,o,h1,h2,h3,_⟩:=QiJ hS hk hr; exact⟨i,o,h1,h2,h3⟩)⟩
 size:=Vb _
 shape:=λ_ _ _ h=>h
 loops:=λ_ r h=>⟨r,h⟩
 os:=rfl
 tape:=rfl
 output:=rfl
theorem Qo0 (hS:S.H=H0++L) (hk:Qcw H0.length ks L d0 ks) {a:Addr} {us:ZI} (h:S.Imm a us):(Qa1 S H0 L ks d0).Imm a us :=
 ⟨h.1,λhne hr=>h.2.1 hne (by obtain⟨i,o,h1,h2,h3,_⟩:=QiJ hS hk hr; exact⟨i,o,h1,h2,h3⟩),h.2.2⟩
theorem QBT {n i p off len sz cap:Nat} {a:ZJ} (h:S.OwnAt i off len sz a cap) (hρ:(Qa1 S H0 L ks d0).ρ p=S.ρ i) (_hn:n=0:=by rfl):(Qa1 S H0 L ks d0).OwnAt p off len sz a cap:=by
 unfold St.OwnAt at *;rw[hρ]; exact h
theorem Qnp (hsim:Sim S) (hS:S.H=H0++L) (hk:Qcw H0.length ks L d0 ks):∀ (d:Nat),d<=d0->∀ (s:SV) (v:Value),VR S s v->VR (Qa1 S H0 L ks d0) (s.fz H0.length ks L d) v:=by
 intro d
 induction d with
 |zero=>intro _ s v _; exact .any v
 |succ d ih =>
  intro hd s v h;have ih:=ih (by omega);unfold SV.fz;by_cases hu:s.under H0.length=true
  . rw[Zo hu]; exact h.extB (QfD hS hk) (.inr hu)
  rw[Zn hu];have row:∀ (i off:Nat) (o:AO) (b:Nat),¬ i<H0.length->S.H[i]? = some o->o.live=true->S.ρ i=some b->Qbn ks (i-H0.length)=none->∀ m,off+m<=o.cells.length ->
   ∃ us,(Qa1 S H0 L ks d0).Imm ⟨b,off,none⟩ us/\VRs (Qa1 S H0 L ks d0) (((o.cells.drop off).take m).map (SV.fz H0.length ks L d)) us:=by
   intro i off o b hi ho hl hρ hp m hm;have h1:=hsim.live i o ho hl;rw[hρ]at h1;obtain⟨us,rest,hh,hvr⟩:=h1;have hlen:us.length=o.cells.length:=hvr.1;refine⟨(us.drop off).take m,⟨?_,?_,λ_ _=>.inl ⟨_,_,hh⟩⟩,((hvr.drop off).take m).map ih⟩
   . intro j u hj;rw[VK]at hj;split at hj
     . rw[VW]at hj;have hadd:(⟨b,off,none⟩:Addr).add j=⟨b,off+j,none⟩:=by unfold Addr.add; split<;>simp_all
       rw[hadd];show S.w.cell? _=_;unfold World.cell?;simp only[hh,Yq,Vw,Zu];simp[Vc (Ql hj),hj]
     . cases hj
   . intro hne hr;obtain⟨i',o',ho',hl',hρ',hi'⟩:=QiJ hS hk hr;have e1:=hsim.inj i i' o o' b ho ho' (AO.own_live hl) hl' hρ hρ';subst e1;rcases hi' with hi'|⟨p,hi'⟩
     . exact hi hi'
     . exact Qql hp hi'
  have hL:∀ {i:Nat} {o:AO},¬ i<H0.length->L[i-H0.length]? = some o->S.H[i]? = some o:=by
   intro i o hi ho; rw[hS,Vl (by omega)]; exact ho
  have hρk:∀ {i p:Nat},¬ i<H0.length->Qbn ks (i-H0.length)=some p->(Qa1 S H0 L ks d0).ρ (H0.length+p)=S.ρ i:=by
   intro i p hi hp;have:=QpD hp;show QcF S H0.length ks (H0.length+p)=_;simp only[QcF];rw[Zn (by omega)];have e:H0.length+p-H0.length=p:=by omega
   rw[e,this];show S.ρ _=_;congr 1; omega
  have hok:∀ {i p:Nat},¬ i<H0.length->Qbn ks (i-H0.length)=some p->∃ o',(Qa1 S H0 L ks d0).H[H0.length+p]? = some o'/\o'.ver=0:=by
   intro i p hi hp;have:=QpD hp;obtain⟨o,h1,h2,h3⟩:=QmZ hk this;refine⟨{ cells:=o.cells.map (SV.fz H0.length ks L d0),ty:=o.ty,ver:=0,live:=true },?_,rfl⟩
   . show(H0++Qet H0.length ks L d0)[H0.length+p]? = some { cells:=o.cells.map (SV.fz H0.length ks L d0),ty:=o.ty,ver:=0,live:=true };rw[Vl (by omega)];unfold Qet;rw[Vp];have e:H0.length+p-H0.length=p:=by omega
     rw[e,this];simp[h1]
  cases h with
  |any v=>exact .any v
  |val v=>exact .val v
  |gd b x v h0 h=>exact .any v
  |nilslc=>simpa using VR.nilslc
  |slc cells len a cap us hc hl hi h =>
   have hm:=VRs.map (S:=S) (l:=cells) (us:=us) ⟨hl,h⟩ ih;exact .slc _ len a cap us hc hm.1 (Qo0 hS hk hi) hm.2
  |own i off len sz ver a cap o ho hv hc hz hat =>
   have hi:¬ i<H0.length:=by simpa[SV.under]using hu
   simp only
   cases hLi:L[i-H0.length]? with
   |none=>exact .any _
   |some o2 =>
    have e2:=hL hi hLi;rw[ho]at e2
    cases e2
    simp only
    cases hp:Qbn ks (i-H0.length)with
    |some p =>
     simp only;split
     . rename_i hver;obtain⟨o',h1,h2⟩:=hok hi hp;exact .own _ off len sz 0 a cap o' h1 (by omega) hc hz λ_=>QBT (hat hver) (hρk hi hp)
     . exact .any _
    |none =>
     simp only;split
     . rename_i hcond;obtain⟨hl,hver,hlen⟩:=hcond;have h2:=hat hver;unfold St.OwnAt at h2
       cases hρ:S.ρ i with
       |none =>
        rw[hρ]at h2;obtain⟨rfl,rfl⟩:=h2
        cases a with
        |none=>simpa using VR.nilslc
        |some a =>
         simp only[Yi,Yr,VF];exact .slc [] 0 a 0 [] hc rfl ⟨λj u hj=>by simp at hj,λhne=>absurd rfl hne,Qgq⟩ λj s u hj=>by simp at hj
       |some b =>
        rw[hρ]at h2;obtain⟨us,hi1,hi2⟩:=row i off o b hi ho hl hρ hp (len*sz) hlen
        cases a with
        |none =>
         have h0:=hz rfl;subst h0;have hc0:cap=0:=by
          rcases h2 with h2|⟨h2,_⟩
          . exact h2
          . cases h2
         subst hc0;simpa using VR.nilslc
        |some a =>
         rcases h2 with h2|⟨h2,_⟩
         . have:len=0:=by omega
           subst this;simp only[Yi,Yr,VF];exact .slc [] 0 a cap [] hc rfl ⟨λj u hj=>by simp at hj,λhne=>absurd rfl hne,Qgq⟩ λj s u hj=>by simp at hj
         . cases h2
           exact .slc _ len _ cap us hc hi2.1 hi1 hi2.2
     . exact .any _
  |ptrI cells len k a us hl hi h =>
   have hm:=VRs.map (S:=S) (l:=cells) (us:=us) ⟨hl,h⟩ ih;exact .ptrI _ len k a us hm.1 (Qo0 hS hk hi) hm.2
  |ptrO i off len sz ver k a o ho hv hat =>
   have hi:¬ i<H0.length:=by simpa[SV.under]using hu
   simp only
   cases hLi:L[i-H0.length]? with
   |none=>exact .any _
   |some o2 =>
    have e2:=hL hi hLi;rw[ho]at e2
    cases e2
    simp only
    cases hp:Qbn ks (i-H0.length)with
    |some p =>
     simp only;split
     . rename_i hver;obtain⟨o',h1,h2⟩:=hok hi hp;refine .ptrO _ off len sz 0 k a o' h1 (by omega) λ_ => ?_;obtain⟨b,hb1,hb2⟩:=hat hver;exact⟨b,(hρk hi hp).trans hb1,hb2⟩
     . exact .any _
    |none =>
     simp only;split
     . rename_i hcond;obtain⟨hl,hver,hlen⟩:=hcond;obtain⟨b,hρ,rfl⟩:=hat hver;obtain⟨us,hi1,hi2⟩:=row i off o b hi ho hl hρ hp (o.cells.length-off) (by omega);have e1:(o.cells.drop off).take (o.cells.length-off)=o.cells.drop off:=by rw[VB]; simp
       rw[e1]at hi2;have e2:(⟨b,off+k,none⟩:Addr)=(⟨b,off,none⟩:Addr).add k:=by unfold Addr.add; split<;>simp_all
       rw[e2];exact .ptrI _ 0 k _ us hi2.1 hi1 hi2.2
     . exact .any _
  |agg l us hl h=>exact VR.of_agg (VRs.map (S:=S) (l:=l) (us:=us) ⟨hl,h⟩ ih)
  |tup l us hl h=>exact VR.of_tup (VRs.map (S:=S) (l:=l) (us:=us) ⟨hl,h⟩ ih)
  |fn f x y us vs hl h hl' h'=>exact VR.fn_of (VRs.map (S:=S) (l:=x) (us:=us) ⟨hl,h⟩ ih) (VRs.map (S:=S) (l:=y) (us:=vs) ⟨hl',h'⟩ ih)
  |ifc t x v h=>exact .ifc t _ v (ih x v h)
  |yl i l o ho h=>exact .any _
  |mp i ver l o ho hv h =>
   have hi:¬ i<H0.length:=by simpa[SV.under]using hu
   simp only
   cases hLi:L[i-H0.length]? with
   |none=>exact .any _
   |some o2 =>
    have e2:=hL hi hLi;rw[ho]at e2
    cases e2
    simp only
    cases hp:Qbn ks (i-H0.length)with
    |some p=>exact .any _
    |none =>
     simp only;split
     . rename_i hcond;obtain⟨hl,hver⟩:=hcond;split
       . rename_i kk vs hcells;obtain⟨l',x,m,us,env,k1,k2,k3,k4,k5⟩:=hsim.lp i o ho hl (by rw[hcells]; simp);rw[hcells]at k2;obtain⟨rfl,rfl⟩:=List.cons.inj k2;have hρ:=h hver;rw[hρ]at k1; cases k1
         rcases k4.kind with ⟨r,rfl⟩|⟨es,cl,rfl⟩
         . exact k4.elim
         . obtain⟨rfl,rfl⟩:=k4;have hm:=k5.map ih;refine .mpf _ l es cl _ k3 (λhr => ?_) rfl hm.1 hm.2;obtain⟨i',o',ho',hl',hρ',hi'⟩:=QiJ hS hk hr;have e1:=hsim.inj i i' o o' l ho ho' (by simp[AO.own,hcells]) hl' hρ hρ';subst e1;rcases hi' with hi'|⟨p,hi'⟩
           . exact hi hi'
           . exact Qql hp hi'
       . exact .any _
     . exact .any _
  |mpf vs l es cl us hb hn hu2 hl h =>
   have hm:=VRs.map (S:=S) (l:=vs) (us:=us) ⟨hl,h⟩ ih;exact .mpf _ l es cl us hb (λhr=>hn (by obtain⟨i',o',ho',hl',hρ',_⟩:=QiJ hS hk hr; exact⟨i',o',ho',hl',hρ'⟩)) hu2 hm.1 hm.2
theorem QAG (hsim:Sim S) (hS:S.H=H0++L) (hcl:closed H0) (hk:Qcw H0.length ks L d0 ks):Sim (Qa1 S H0 L ks d0):=by
 have hlive:∀ (i:Nat) (o:AO),(Qa1 S H0 L ks d0).H[i]? = some o->o.live=true ->
  match (Qa1 S H0 L ks d0).ρ i with
  |none=>o.cells=[]
  |some b=>∃ us rest,S.w.heap[b]? = some (.cells (us++rest).toArray o.ty (0,0))/\VRs (Qa1 S H0 L ks d0) o.cells us:=by
  intro i o ho hl;show match QcF S H0.length ks i with
   |none=>o.cells=[]
   |some b=>_
  rcases QfQ hk ho with ⟨h1,h2,h3⟩|⟨p,k,o',rfl,h1,h2,h3,_,rfl,h5⟩
  . rw[h3];have h4:=hsim.live i o (by rw[hS,Vc h1]; exact h2) hl
    cases hρ:S.ρ i with
    |none=>rw[hρ]at h4; exact h4
    |some b =>
     rw[hρ]at h4;obtain⟨us,rest,h5,h6⟩:=h4;exact⟨us,rest,h5,h6.extB (QfD hS hk) ((SV.underL_iff _ _).2 (hcl i o h2))⟩
  . rw[h5];have h4:=hsim.live (H0.length+k) o' (by rw[hS,Vl (by omega)]; simpa using h2) h3
    cases hρ:S.ρ (H0.length+k)with
    |none=>rw[hρ]at h4; simp only; rw[h4]; rfl
    |some b =>
     rw[hρ]at h4;obtain⟨us,rest,h6,h7⟩:=h4;exact⟨us,rest,h6,h7.map (Qnp hsim hS hk d0 (Vb _))⟩
 refine⟨hlive,?_,?_,?_,hsim.gl.ext (QfD hS hk),hsim.kf.ext (QfD hS hk)⟩
 . intro i o ho s hs;rcases QfQ hk ho with ⟨h1,h2,h3⟩|⟨p,k,o',rfl,h1,h2,h3,h6,rfl,h5⟩
   . refine⟨?_,(hsim.bel i o (by rw[hS,Vc h1]; exact h2) s hs).2⟩;exact SV.under_mono (by show _<=(H0++_).length; simp) s (hcl i o h2 s hs)
   . refine⟨?_,λ_=>h6 s hs⟩;have h8:=hlive _ _ ho rfl;split at h8
     . rw[h8]at hs; cases hs
     . obtain⟨us,rest,h9,h10⟩:=h8;obtain⟨j,hj⟩:=Vy hs;obtain⟨u,_,h11⟩:=h10.get hj;exact h11.under
 . intro i j o o' b hi hj hl hl' hρ hρ';change QcF S H0.length ks i=some b at hρ;change QcF S H0.length ks j=some b at hρ';rcases QfQ hk hi with ⟨h1,h2,h3⟩|⟨p,k,o1,rfl,h1,h2,h3,_,rfl,h5⟩<;>rcases QfQ hk hj with ⟨g1,g2,g3⟩|⟨q,k',o2,rfl,g1,g2,g3,_,rfl,g5⟩
   . exact hsim.inj i j o o' b (by rw[hS,Vc h1]; exact h2) (by rw[hS,Vc g1]; exact g2) hl hl' (by rw[<-h3]; exact hρ) (by rw[<-g3]; exact hρ')
   . have:=hsim.inj i (H0.length+k') o o2 b (by rw[hS,Vc h1]; exact h2) (by rw[hS,Vl (by omega)]; simpa using g2) hl (AO.own_live g3) (by rw[<-h3]; exact hρ) (by rw[<-g5]; exact hρ');omega
   . have:=hsim.inj (H0.length+k) j o1 o' b (by rw[hS,Vl (by omega)]; simpa using h2) (by rw[hS,Vc g1]; exact g2) (AO.own_live h3) hl' (by rw[<-h5]; exact hρ) (by rw[<-g3]; exact hρ');omega
   . have:=hsim.inj (H0.length+k) (H0.length+k') o1 o2 b (by rw[hS,Vl (by omega)]; simpa using h2) (by rw[hS,Vl (by omega)]; simpa using g2) (AO.own_live h3) (AO.own_live g3) (by rw[<-h5]; exact hρ) (by rw[<-g5]; exact hρ');have e:k=k':=by omega
     subst e;rw[QnG hk h1 g1]
 . intro i o ho hl hne;rcases QfQ hk ho with ⟨h1,h2,h3⟩|⟨p,k,o',rfl,h1,h2,h3,h6,rfl,h5⟩
   . obtain⟨l,x,m,us,env,k1,k2,k3,k4,k6⟩:=hsim.lp i o (by rw[hS,Vc h1]; exact h2) hl hne;have hu:=hcl i o h2;rw[k2]at hu;exact⟨l,x,m,us,env,h3.trans k1,k2,k3,k4,k6.extB (QfD hS hk) ((SV.underL_iff _ _).2 λs hs=>hu s (by simp[hs]))⟩
   . cases hl
end
end
section
variable [QR] [QP] [Qv]
theorem QBR {P:ZL} {w:ZM} {l:Nat} {r:Loop} (h:w.heap[l]? = some (Obj.loop r)) (fn:ZN) (tmps:Array Value) (ps:Array Tmp) (assign body:Code) :
 (Instr.enterLoop fn tmps ps assign body (some l)).run P w =
  .ok (w.heap.size,[]) (w.alloc (.loop { state:=.ready,pending:=none,fn,tmps,params:=ps,assign,body,defers:=r.defers })):=by
 unfold Instr.enterLoop;simp only[Sem.run_bind,run_getLoop h,run_newObj_alloc,Result.andThen,Sem.run_pure]
end
section
variable [QR] [QP] [Qv]
def QtW (o:Ins):Bool:=match o.j with|.p _=>true|_=>false
def Qnr (l:List Ins) (o:List Nat):List Ins:=o.filterMap λi=>l[i]?
def xre (P:ZL) (l:List Ins):List (List Nat)->Env->ZG->(ZF)->Prop
 |[],_,_,_=>True
 |o::r,env,H,K=>QbK P (Qnr l o) env H K/\xre P l r env H K
def QcR (ops:Array Oper) (os:List (List Nat)):Nat->List Nat->Array Bool->Bool
 |0,p,listed=>(Region.ready .any ops listed).isEmpty&&os.any (· == p)
 |n+1,p,listed=>if(Region.ready .any ops listed).isEmpty then os.any (· == p)else
  (Region.ready .any ops listed).all λi=>os.any (λo=>(p++[i]).isPrefixOf o)&&QcR ops os n (p++[i]) (listed.setIfInBounds i true)
section
variable {P:ZL} {N:Nat} {db:DB}
theorem Qze {o:Ins} (h:QtW o=true) (env:Env) (H:ZG):∃ (side:Prop) (env':Env),∀ K:ZF,xo P o env H K↔side/\K .normal env' H:=by
 unfold QtW at h;split at h
 . rename_i i hj
   cases hg:o.g with
   |none=>exact⟨(pv i env.ev H).1,env.put o.d (pv i env.ev H).2,λK=>by simp only[xo,xj,hg,hj]⟩
   |some sw =>
    obtain⟨s,want⟩:=sw;exact⟨(env.get s).bish=true/\((env.get s).on want=true->(pv i env.ev H).1),env.put o.d (.gd ((env.get s).on want) (pv i env.ev H).2),λK=>by simp only[xo,hg,hj,and_assoc]⟩
 . cases h
theorem Qqr {ops:Array Oper}:∀ {l:List Oper} {l':List Ins} {i:Nat} {o:Oper},chkL P N ops l l'=true->l[i]? = some o->∃ o',l'[i]? = some o'/\QdR P N ops o o'=true
 |[],_,i,o,_,h=>by simp at h
 |_::_,[],i,o,hc,h=>by simp[chkL]at hc
 |x::l,y::l',0,o,hc,h=>by
  simp only[chkL,Va]at hc;simp at h; subst h;exact⟨y,rfl,hc.1⟩
 |x::l,y::l',i+1,o,hc,h=>by
  simp only[chkL,Va]at hc;simpa using Qqr hc.2 (by simpa using h)
theorem QsE {ops:Array Oper} {os:List (List Nat)}:∀ (n:Nat) (p:List Nat) (listed:Array Bool),QcR ops os n p listed=true->QcR ops os (n+1) p listed=true
 |0,p,listed,h=>by
  simp only[QcR,Va]at h;rw[QcR,Zo h.1]; exact h.2
 |n+1,p,listed,h=>by
  rw[QcR]at h;rw[QcR];by_cases he:(Region.ready .any ops listed).isEmpty=true
  . rw[Zo he]at h ⊢; exact h
  . rw[Zn he]at h ⊢;rw[Vn]at h ⊢;intro i hi;have:=h i hi;rw[Va]at this ⊢;exact⟨this.1,QsE n _ _ this.2⟩
theorem Qsy {ops:Array Oper} {os:List (List Nat)} {n:Nat} {p:List Nat} {listed:Array Bool} (h:QcR ops os n p listed=true):∀ d,QcR ops os (n+d) p listed=true
 |0=>h
 |d+1=>QsE _ _ _ (Qsy h d)
theorem QjL {md:Region.Mode} {ops:Array Oper} {Q Q':Exit->Act->ZM->Prop} (hq:∀ e a w,Q e a w->Q' e a w):∀ (fuel:Nat) (listed:Array Bool) (a:Act) (w:ZM),Qcp P md ops Q fuel listed a w->Qcp P md ops Q' fuel listed a w
 |0,_,_,_,h=>⟨h.1,hq _ _ _ h.2⟩
 |fuel+1,listed,a,w,h=>by
  refine⟨λhr=>hq _ _ _ (h.1 hr),λi hi => ?_⟩;have h3:=h.2 i hi;unfold Qcc at h3 ⊢
  cases ho:ops[i]? with
  |none=>rw[ho]at h3; exact QjL hq fuel _ _ _ h3
  |some o =>
   rw[ho]at h3;simp only at h3 ⊢;split at h3
   . rename_i hwt;rw[Zo hwt];exact Oper.wq_mono (λa' w' h=>QjL hq fuel _ a' w' h) (λe a w _ h=>hq e a w h) h3
   . rename_i hwt;rw[Zn hwt];exact QjL hq fuel _ _ _ h3
def QgS (o:Ins):Bool:=match o.j with|.p _=>true|.e (.st _ _ _)=>o.g.isNone|.e (.stw _ _ _ _)=>o.g.isNone|_=>false
theorem QA1 {o:Ins} (h:QgS o=true) (env:Env) (H:ZG):∃ (side:Prop) (env':Env) (H':ZG),∀ K:ZF,xo P o env H K↔side/\K .normal env' H':=by
 obtain⟨d,g,j⟩:=o;unfold QgS at h;simp only at h;split at h
 . obtain⟨side,env',hx⟩:=Qze (P:=P) (o:=⟨d,g,.p _⟩) rfl env H;exact⟨side,env',H,hx⟩
 . rename_i n p x;have hg:g=none:=by cases g with|none=>rfl|some _=>cases h
   subst hg;have key:∀ K:ZF,xo P ⟨d,none,.e (.st n p x)⟩ env H K↔((env.ev p).vd=true/\(env.ev x).vd=true/\QD (env.ev x).ug.flat/\(env.ev x).ug.flat.length=n/\0<n /\
    match (env.ev p).ug with
    |.ptr (.own i off _ _ ver) k=>off+k+n<=(Qo H i ver).length/\K .normal (env.put d (.val undef)) (setObj H i λo=>o.put (off+k) (env.ev x).ug.flat)
    |_=>False):=λK=>Iff.rfl
   by_cases hp:∃ i off a b ver k,(env.ev p).ug=.ptr (.own i off a b ver) k
   . obtain⟨i,off,a,b,ver,k,hp⟩:=hp;refine⟨(env.ev p).vd=true/\(env.ev x).vd=true/\QD (env.ev x).ug.flat/\(env.ev x).ug.flat.length=n/\0<n/\off+k+n<=(Qo H i ver).length,env.put d (.val undef),setObj H i λo=>o.put (off+k) (env.ev x).ug.flat,λK => ?_⟩;rw[key];rw[hp];simp only[and_assoc]
   . refine⟨False,env,H,λK => ?_⟩;rw[key];constructor
     . rintro⟨_,_,_,_,_,h6⟩;split at h6
       . rename_i hh; exact absurd ⟨_,_,_,_,_,_,hh⟩ hp
       . exact h6.elim
     . exact λh=>h.1.elim
 . rename_i ws n p x;have hg:g=none:=by cases g with|none=>rfl|some _=>cases h
   subst hg;have key:∀ K:ZF,xo P ⟨d,none,.e (.stw ws n p x)⟩ env H K↔((env.ev p).vd=true/\(env.ev x).vd=true/\QD (env.ev x).ug.flat/\(env.ev x).ug.flat.length=n/\0<n /\
    match (env.ev p).ug with
    |.ptr (.own i off _ _ ver) k=>off+k+n<=(Qo H i ver).length/\K .normal (env.put d (.val undef)) (setObj H i λo=>o.put (off+k) (env.ev x).ug.flat)
    |_=>False):=λK=>Iff.rfl
   by_cases hp:∃ i off a b ver k,(env.ev p).ug=.ptr (.own i off a b ver) k
   . obtain⟨i,off,a,b,ver,k,hp⟩:=hp;refine⟨(env.ev p).vd=true/\(env.ev x).vd=true/\QD (env.ev x).ug.flat/\(env.ev x).ug.flat.length=n/\0<n/\off+k+n<=(Qo H i ver).length,env.put d (.val undef),setObj H i λo=>o.put (off+k) (env.ev x).ug.flat,λK => ?_⟩;rw[key];rw[hp];simp only[and_assoc]
   . refine⟨False,env,H,λK => ?_⟩;rw[key];constructor
     . rintro⟨_,_,_,_,_,h6⟩;split at h6
       . rename_i hh; exact absurd ⟨_,_,_,_,_,_,hh⟩ hp
       . exact h6.elim
     . exact λh=>h.1.elim
 . cases h
def QcP (n0:Nat) (l:List Ins) (o:List Nat):List Ins:=o.filterMap λi=>l[i-n0]?
def xrt (P:ZL) (n0:Nat) (l:List Ins):List (List Nat)->Env->ZG->(ZF)->Prop
 |[],_,_,_=>True
 |o::r,env,H,K=>QbK P (QcP n0 l o) env H K/\xrt P n0 l r env H K
theorem Qtx {n0:Nat} {l:List Ins} {env:Env} {H:ZG} {K:ZF}:∀ {os:List (List Nat)},xrt P n0 l os env H K->∀ o∈os,QbK P (QcP n0 l o) env H K
 |[],_,o,ho=>by simp at ho
 |x::r,h,o,ho=>by
  rw[Vd]at ho;rcases ho with rfl|ho
  . exact h.1
  . exact Qtx h.2 o ho
theorem Qyh {ops:Array Oper} {n0:Nat} {os:List (List Nat)} {l:List Ins} {S:St} {K:ZF} (hc:chkL P N ops (ops.toList.drop n0) l=true) (hp:l.all QgS=true) :
 ∀ (fuel:Nat) (p:List Nat) (listed:Array Bool) (S':St) (env:Env) (a:Act),QcR ops os fuel p listed=true->listed.size=ops.size->(∀ i,i<n0->listed.getD i false=true)->(∀ rest,p++rest∈os->QbK P (QcP n0 l rest) env S'.H K) ->
  Ext S.H.length S S'->Sim S'->QJ S' env a.tmps->a.tmps.size=N->db.Ok S'.w a.defers->Qcp P .any ops (Qaz S N db K) fuel listed a S'.w:=by
 intro fuel;have hmem:∀ {p:List Nat},os.any (· == p)=true->p∈os:=by
  intro p h;rw[Yt]at h;obtain⟨x,hx,he⟩:=h;rw[<-eq_of_beq he]; exact hx
 have done:∀ (p:List Nat) (S':St) (env:Env) (a:Act),os.any (· == p)=true->(∀ rest,p++rest∈os->QbK P (QcP n0 l rest) env S'.H K) ->
  Ext S.H.length S S'->Sim S'->QJ S' env a.tmps->a.tmps.size=N->db.Ok S'.w a.defers->Qaz S N db K .normal a S'.w :=
  λp S' env a h hx he hS henv hN hd=>⟨.normal,env,S'.ρ,S'.H,trivial,he,hS,henv,hN,hd,hx [] (by simpa using hmem h)⟩
 induction fuel with
 |zero =>
  intro p listed S' env a hcm hsz hl hx he hS henv hN hd;simp only[QcR,Va,List.isEmpty_iff]at hcm;exact⟨hcm.1,done p S' env a hcm.2 hx he hS henv hN hd⟩
 |succ n ih =>
  intro p listed S' env a hcm hsz hl hx he hS henv hN hd;simp only[QcR]at hcm;refine⟨λhr => ?_,λi hi => ?_⟩
  . rw[hr]at hcm;exact done p S' env a (by simpa using hcm) hx he hS henv hN hd
  . rw[Zn (by intro h; rw[List.isEmpty_iff]at h; rw[h]at hi; simp at hi),Vn]at hcm;have h1:=hcm i hi;rw[Va]at h1;rw[mem_ready]at hi;obtain⟨g1,o,ho,hdeps⟩:=hi;have hlt:=(V7.1 ho).1;have hin:n0<=i:=by
     rcases Vs i n0 with h|h
     . have:=hl i h;rw[QiF (by omega),this]at g1; cases g1
     . exact h
    obtain⟨o',ho',hins⟩:=Qqr hc (i:=i-n0) (by rw[VW,show n0+(i-n0)=i by omega]; simpa using ho);have hpu:QgS o'=true:=by rw[Vn]at hp; exact hp o' (Vv ho')
    obtain⟨side,env',H1,hxo⟩:=QA1 (P:=P) hpu env S'.H;have hpick:∀ rest,QcP n0 l (i::rest)=o'::QcP n0 l rest:=λrest=>by simp[QcP,ho']
    have hrest:∀ rest,p++(i::rest)∈os->side/\QbK P (QcP n0 l rest) env' H1 K:=by
     intro rest hm;have h2:=hx (i::rest) hm;rw[hpick]at h2;simp only[QbK]at h2;exact(hxo _).1 h2
    have hside:side:=by
     have h2:=h1.1;rw[Yt]at h2;obtain⟨x,hx1,hx2⟩:=h2;rw[List.isPrefixOf_iff_prefix]at hx2;obtain⟨t,ht⟩:=hx2;refine(hrest t ?_).1;rw[show p++i::t=p++[i]++t by simp,ht]; exact hx1
    refine Qyl ho (QhJ (Q:=Qaz S N db K) (K:=λx e h=>x=.normal/\e=env'/\h=H1) hS henv hN hd hins ((hxo _).2 ⟨hside,rfl,rfl,rfl⟩) ?_ ?_)
    . rintro a' w' ⟨x,env1,ρ',H',hx',hext,hsim,henv',hN',hd',rfl,rfl,rfl⟩;refine ih (p++[i]) _ ⟨ρ',H',w'⟩ env1 a' h1.2 (by simpa using hsz) (λk hk => ?_) (λrest hm => ?_) (he.trans (hext.mono (he.len (Vb _)))) hsim henv' hN' hd'
      . rw[Qiz (by omega),Zn (by omega)]; exact hl k hk
      . exact(hrest rest (by rw[show p++i::rest=p++[i]++rest by simp]; exact hm)).2
    . rintro ch a' w' ⟨x,env1,ρ',H',hx',hext,hsim,henv',hN',hd',rfl,_⟩;simp only[ER]at hx'
end
end
section
variable [QR] [QP] [Qv]
def QkL (ops:Array Oper) (l:List Ins):Bool:=ops.toList.all λo=>o.dst.isNone||l.any λi=>i.d==o.dst
def Qdc:List Ins->Env->Env
 |[],e=>e
 |i::r,e=>(Qdc r e).put i.d .any
theorem QoQ {e:Env} {t:Nat}:∀ {l:List Ins},(∃ i∈l,i.d=some t)->(Qdc l e).get t=.any
 |[],⟨_,h,_⟩=>by simp at h
 |i::r,⟨j,h,hj⟩=>by
  simp only[Qdc];by_cases hi:i.d=some t
  . rw[hi]; simp[Env.put,Env.get]
  . have h2:(Qdc r e).get t=.any:=by
     rcases Vd.1 h with rfl|h
     . exact absurd hj hi
     . exact QoQ ⟨j,h,hj⟩
    cases hd:i.d with
    |none=>simpa[Env.put]using h2
    |some k =>
     have:k≠t:=λe=>hi (by rw[hd,e]);simp[Env.put,Env.get,this,h2]
theorem Qq7 {e:Env} {t:Nat}:∀ {l:List Ins},(∀ i∈l,i.d≠some t)->(Qdc l e).get t=e.get t
 |[],_=>rfl
 |i::r,h=>by
  simp only[Qdc];have h2:=Qq7 (e:=e) (t:=t) (l:=r) λj hj=>h j (by simp[hj]);have hi:=h i (by simp)
  cases hd:i.d with
  |none=>simpa[Env.put]using h2
  |some k =>
   have:k≠t:=λe=>hi (by rw[hd,e]);simp[Env.put,Env.get,this,h2]
def QfG (ops:Array Oper) (a a':Act):Prop:=∀ t,(∀ o∈ops.toList,o.dst≠some t)->a'.tmps.getD t undef=a.tmps.getD t undef
theorem QfG.put {ops:Array Oper} {a a':Act} {o:Oper} (h:QfG ops a a') {i:Nat} (ho:ops[i]? = some o) (v:Value):QfG ops a (a'.put o.dst v):=by
 intro t ht;have hmem:o∈ops.toList:=by rw[Array.mem_toList_iff]; exact Array.mem_of_getElem? ho
 have hne:=ht o hmem;rw[<-h t ht]
 cases hd:o.dst with
 |none=>rfl
 |some k =>
  have:k≠t:=λe=>hne (by rw[hd,e]);simp[Act.put,VQ,this]
section
variable {P:ZL} {ops:Array Oper} {Q:Exit->Act->ZM->Prop} {a0:Act}
def Qjt (ops:Array Oper) (a0:Act) (Q:Exit->Act->ZM->Prop):Exit->Act->ZM->Prop:=λe a w=>Q e a w/\(e≠.outgrown->QfG ops a0 a)
theorem Qpr (h:LetsOut Q):LetsOut (Qjt ops a0 Q):=by
 obtain⟨a,w,h⟩:=h;exact⟨a,w,h,λh=>absurd rfl h⟩
theorem QAR {i:Nat} {K K':Act->ZM->Prop} {a:Act} {w:ZM} (h:Qcc P ops Q i K a w) (ha:QfG ops a0 a) (hK:∀ a' w',QfG ops a0 a'->K a' w'->K' a' w'):Qcc P ops (Qjt ops a0 Q) i K' a w:=by
 unfold Qcc at *
 cases ho:ops[i]? with
 |none=>rw[ho]at h; exact hK _ _ ha h
 |some o =>
  rw[ho]at h;simp only at h ⊢;split
  . rename_i hw;rw[Zo hw]at h;unfold Oper.wq at *;generalize (execOp a.eval o).run P w=r at *
    cases r with
    |ok n w' =>
     cases n<;>simp only[Oper.uponIn]at h ⊢ <;> first|exact hK _ _ (ha.put ho _) h|exact hK _ _ (QfG.put (a':={ a with defers:=_::a.defers }) ha ho _) h|exact⟨h.1,RowsIn.mono h.2 λv w'' hv=>hK _ _ (ha.put ho v) hv⟩|(refine⟨h.1,CallsIn.mono h.2 λe w'' he => ?_⟩; cases e<;>first|exact hK _ _ (ha.put ho _) he|exact⟨he,λ_=>ha⟩|exact Qpr he)|(refine⟨h.1,RoundIn.mono h.2 λe w'' he => ?_⟩; cases e<;>first|exact hK _ _ (ha.put ho _) he|exact⟨he,λ_=>ha⟩|exact Qpr he)
    |halt hh w' =>
     cases hh<;>simp only[Oper.uponIn]at h ⊢ <;> exact⟨h,λ_=>ha⟩
  . rename_i hw;rw[Zn hw]at h;exact hK _ _ (ha.put ho _) h
theorem Qpl {md:Region.Mode}:∀ (fuel:Nat) (listed:Array Bool) (a:Act) (w:ZM),Qcp P md ops Q fuel listed a w->QfG ops a0 a->Qcp P md ops (Qjt ops a0 Q) fuel listed a w
 |0,listed,a,w,h,ha=>⟨h.1,h.2,λ_=>ha⟩
 |fuel+1,listed,a,w,h,ha=>⟨λhr=>⟨h.1 hr,λ_=>ha⟩,λi hi=>QAR (h.2 i hi) ha λa' w' ha' h'=>Qpl fuel _ a' w' h' ha'⟩
theorem Qaz.off {S:St} {N:Nat} {db:DB} {K:ZF} {l:List Ins} {env:Env} {e:Exit} {a:Act} {w:ZM} (hS:QJ S env a0.tmps) (hc:QkL ops l=true)
 (h:Qjt ops a0 (Qaz S N db λx e H=>match x with|.normal=>K .normal e H|x=>K x (Qdc l env) H) e a w):Qaz S N db K e a w:=by
 obtain⟨⟨x,env',ρ,H,h1,h2,h3,h4,h5,h6,h7⟩,h8⟩:=h;have main:e≠.outgrown->QJ ⟨ρ,H,w⟩ (Qdc l env) a.tmps:=λhne=>by
  have hoff:=h8 hne;refine⟨λt => ?_⟩;by_cases ht:∃ i∈l,i.d=some t
  . rw[QoQ ht]; exact .any _
  . rw[Qq7 λi hi h=>ht ⟨i,hi,h⟩,hoff t λo ho hd => ?_]
    . exact(hS.ext h2).get t
    . unfold QkL at hc;rw[Vn]at hc;have:=hc o ho;rw[hd]at this;simp only[Option.isNone_some,Bool.false_or,Yt,Zr]at this;exact ht this
 cases x with
 |normal=>exact⟨.normal,env',ρ,H,h1,h2,h3,h4,h5,h6,h7⟩
 |_ =>
  refine⟨_,_,ρ,H,h1,h2,h3,main ?_,h5,h6,h7⟩;rintro rfl;simp[ER]at h1
end
end
end Go.Ab
