/- Steps of the proof. -/
import Derived.Test.YtmkdpmfhlfhjkaaGreatDoorCore1
import Derived.Laws.BytesString
import Derived.Laws.Append
import Derived.Laws.AppendOwn
import Derived.Laws.MakeOwn
import Derived.Laws.IdiomStrings
import Derived.Deep.Upon
import Derived.Laws.Cover3
import Derived.RangeFuncLeaves
import Derived.RangeFuncRecord
import Derived.Orders
import Derived.Conc.MuLone
set_option linter.all false
namespace Go.Ab
open Go.MapKept (run_setObj_map run_checkKey run_findKey run_keyThatStays)
section
variable [QO] [QK] [Qv]
section
variable {P:ZN} {S:St} {e:Env} {a:Act}
theorem VR.fn_of {f:Fn} {x y:ZJ} {us vs:ZK} (h:VRs S x us) (h':VRs S y vs):VR S (.fn f x y) (.func f us.toArray vs.toArray):=.fn f x y us vs h.1 h.2 h'.1 h'.2
theorem VR.slen_spec {x:SV} {v:Value} (hx:VR S x v) (hs:x.isSl=true):∃ ad cap,v=.slice ad x.slen cap:=by
 cases hx with
 |slc=>exact⟨_,_,rfl⟩
 |nilslc=>exact⟨_,_,rfl⟩
 |own=>exact⟨_,_,rfl⟩
 |val v =>
  have:v=.slice none 0 0:=by cases v<;>simp[SV.isSl]at hs; rename_i a b c; revert hs; cases a<;>cases b<;>cases c<;>simp
  subst this; exact⟨_,_,rfl⟩
 |_=>simp[SV.isSl]at hs
theorem Qua (f:Operand->Value) (as:Array Operand):as.map f=(as.toList.map f).toArray:=by cases as; simp
theorem VR.fn_inv {f:Fn} {x y:ZJ} {v:Value} (h:VR S (.fn f x y) v):∃ us vs,v=.func f us.toArray vs.toArray/\VRs S x us/\VRs S y vs:=by
 cases h with
 |fn f x y us vs hl h hl' h'=>exact⟨us,vs,rfl,⟨hl,h⟩,⟨hl',h'⟩⟩
theorem QyJ (d:Nat) {w:ZO} {t:ZM} {ms:Array (String×ZM)} (h:P.underlying t=some (.interface ms)) (t':ZM) (v:Value):(Op.equalIn (d+1) t (.iface t' v) .nilIface).run P w=.ok false w:=by
 simp[Op.equalIn,run_underlying h]
theorem QwV (d:Nat) {w:ZO} {t:ZM} {ms:Array (String×ZM)} (h:P.underlying t=some (.interface ms)) (t':ZM) (v:Value):(Op.equalIn (d+1) t .nilIface (.iface t' v)).run P w=.ok false w:=by
 simp[Op.equalIn,run_underlying h]
theorem QD5 (d:Nat) {w:ZO} {t:ZM} {ms:Array (String×ZM)} (h:P.underlying t=some (.interface ms)):(Op.equalIn (d+1) t .nilIface .nilIface).run P w=.ok true w:=by
 simp[Op.equalIn,run_underlying h]
theorem Qt0 {t:ZM} {z:SV} (h:Qiv P t z=true):∃ zv,(∀ w:ZO,(zeroValue t).run P w=.ok zv w)/\VR S z zv:=by
 unfold Qiv at h;split at h
 . rename_i i hi;split at h
   . rename_i zv hz;refine⟨zv,λw=>by simp[zeroValue,typeInfo,hi,hz],?_⟩;split at h
     . rename_i l vs;rw[Va,Zs,Vi]at h;obtain⟨h1,h2⟩:=h;have:VR S (.agg l) (.agg vs.toList.toArray):=.agg l vs.toList h1 λj s u hj hu=>by
        have:=h2 (s,u) (Vw (i:=j) (by rw[YQ]; exact⟨hj,hu⟩));exact QgT this
       simpa using this
     . cases h
     . exact QgT h
   . cases h
 . cases h
theorem QrR:∀ {cs:ZJ} {us:ZK},Qhm cs us=true->VRs S cs us
 |[],[],_=>VRs.nil S
 |s::r,v::vs,h=>by simp only[Qhm,Va]at h; exact VRs.cons (QgT h.1) (QrR h.2)
 |[],_::_,h=>by simp[Qhm]at h
 |_::_,[],h=>by simp[Qhm]at h
theorem QAJ {t:ZM} {kk:KK} {z:SV} (h:Qnp P t kk z=true):∃ kt et,P.underlying t=some (.map kt et)/\P.underlying kt=some kk.desc/\Qiv P et z=true/\kk.szB P=true:=by
 unfold Qnp at h;split at h
 . rename_i kt et hu;rw[Va]at h;have h1:=h.1;have key:P.underlying kt=some kk.desc/\kk.szB P=true:=by
    split at h1
    . rename_i hk; cases kk<;>simp at h1; exact⟨hk,rfl⟩
    . rename_i k hk; cases kk<;>simp at h1; subst h1; exact⟨hk,rfl⟩
    . rename_i hk; cases kk<;>simp at h1; exact⟨hk,rfl⟩
    . rename_i e hk
      cases kk<;>simp at h1
      obtain⟨rfl,h2⟩:=h1;exact⟨hk,h2⟩
    . rename_i n t' hk
      cases kk<;>simp at h1
      obtain⟨⟨rfl,rfl⟩,h2⟩:=h1;exact⟨hk,h2⟩
    . cases h1
   exact⟨kt,et,hu,key.1,h.2,key.2⟩
 . cases h
theorem QxC (hS:Sim S) {s:SV} {v:Value} (h:VR S s v) {x:ZK×ZJ} (hm:s.mapOf S.H=some x) :
 ∃ es:Array MapEntry,((v=.map none/\es = #[])\/∃ r cl,v=.map (some r)/\S.w.heap[r]? = some (Obj.map es cl))/\x.1=es.toList.map (·.key)/\VRs S x.2 (es.toList.map (·.val)):=by
 cases h with
 |val v =>
  cases v<;>simp[SV.mapOf]at hm
  rename_i b
  cases b with
  |none=>simp at hm; subst hm; exact⟨#[],.inl ⟨rfl,rfl⟩,rfl,VRs.nil S⟩
  |some b=>simp at hm
 |mp i ver l o ho hv hat =>
  simp only[SV.mapOf,ho]at hm;split at hm
  . rename_i hcond;split at hm
    . rename_i ks vs hcells
      cases hm
      have ho2:S.H[i]? = some ⟨.mk ks::vs,o.ty,o.ver,false⟩:=by
       rw[ho]; congr 1;obtain⟨c,t,vv,lv⟩:=o;simp only at hcells hcond ⊢;rw[hcells,hcond.1]
      obtain⟨l',es,cl,h1,h2,h3,h4⟩:=hS.map ho2;rw[hat hcond.2]at h1; cases h1
      exact⟨es,.inr ⟨l,cl,rfl,h2⟩,h3,h4⟩
    . cases hm
  . cases hm
 |mpf vs l es cl us hb hn hu hl h =>
  simp only[SV.mapOf]at hm
  cases hm
  subst hu;exact⟨es,.inr ⟨l,cl,rfl,hb⟩,rfl,hl,h⟩
 |_=>simp[SV.mapOf]at hm
theorem Qxu {x:SV} {n:Int} {u:Value} (h:x.u8n=some n) (hv:VR S x u):u=.int .u8 n:=by
 unfold SV.u8n at h;split at h
 . cases h; cases hv; rfl
 . cases h
theorem QwP (hS:Sim S) {x:SV} {v:Value} (hx:VR S x v) (hsl:x.isSl=true) (hb:Qhu (x.row S.H) x.slen=true) {sT dT el:ZM} (hu:P.underlying sT=some (.slice el)) (hel:P.underlying el=some (.int .u8)) (hd:P.underlying dT=some .string) :
 (convert sT dT v).run P S.w=.ok (.string (Qgr ((x.row S.H).take x.slen))) S.w:=by
 unfold Qhu at hb;rw[Va,Zs,Vi]at hb;obtain⟨hlen,hall⟩:=hb;have some_:∀ (ad:Addr) (cap:Nat),v=.slice (some ad) x.slen cap->(∀ j,j<x.slen->VR S (.ptr x j) (.pointer (some (ad.add j))))->(convert sT dT v).run P S.w=.ok (.string (Qgr ((x.row S.H).take x.slen))) S.w:=by
  intro ad cap hv hp;subst hv;rw[run_convert_bytes_string S.w sT dT el (some ad) x.slen cap hu hel hd];have hcell:∀ (j:Nat) (u:Value),((Qea ((x.row S.H).take x.slen)).map (Value.int .u8))[j]? = some u->S.w.cell? (ad.add j)=some u:=by
   intro j u hj;have hbl:∀ l:ZJ,Qea l=l.map λs=>s.u8n.getD 0:=by
    intro l; induction l with
    |nil=>rfl
    |cons a r ih=>rw[Qea,ih]; rfl
   rw[hbl,YJ,Vs,V1]at hj;obtain⟨c,hc,rfl⟩:=hj;have hjl:j<x.slen:=by
    have:=Qk hc;simp at this; omega
   have hc2:(x.row S.H)[j]? = some c:=by rw[YP hjl]at hc; exact hc
   obtain⟨ad',u',h1,h2,h3⟩:=(hp j hjl).at hS (j:=0) (c:=c) (by simp only[SV.at,VU]; simpa using hc2)
   cases h1
   have h4:=hall c (Vw hc);obtain⟨n,hn⟩:=YI.1 h4;have h5:=Qxu hn h3;rw[Qhb,Yb]at h2;simp only[Function.comp,hn,V8];rw[h2,h5]
  have hl:=run_loadCells_list (P:=P) S.w ad _ hcell;have hln:((Qea ((x.row S.H).take x.slen)).map (Value.int .u8)).length=x.slen:=by
   have hbl:∀ l:ZJ,(Qea l).length=l.length:=by
    intro l; induction l with
    |nil=>rfl
    |cons a r ih=>simp[Qea,ih]
   rw[Yj,hbl,Yp]; omega
  rw[hln]at hl;exact run_bytesToString S.w ad x.slen cap _ hl
 have none_:∀ cap,v=.slice none 0 cap->x.slen=0->(convert sT dT v).run P S.w=.ok (.string (Qgr ((x.row S.H).take x.slen))) S.w:=by
  intro cap hv h0;subst hv;rw[run_convert_bytes_string S.w sT dT el none 0 cap hu hel hd,h0];rfl
 cases hx with
 |slc cells len ad cap us hc hl hi h =>
  refine some_ ad cap rfl λj hj => ?_;exact .ptrI cells len _ ad us hl hi h
 |nilslc=>exact none_ 0 rfl rfl
 |own i off len sz' ver ad cap o ho hv hc hz h =>
  cases ad with
  |none =>
   have h0:=hz rfl;subst h0;exact none_ cap rfl rfl
  |some ad =>
   refine some_ ad cap rfl λj hj=>.ptrO i off len sz' ver _ _ o ho hv λe => ?_;have h2:=h e;unfold St.OwnAt at h2
   cases hρ:S.ρ i with
   |none=>rw[hρ]at h2; obtain⟨h2,_⟩:=h2; simp only[SV.slen]at hj; omega
   |some b =>
    rw[hρ]at h2;simp only[SV.slen]at hj;rcases h2 with h2|⟨h2,_⟩
    . omega
    . cases h2
      refine⟨b,rfl,?_⟩;unfold Addr.add; split
      . rename_i h3; simp
      . rfl
 |val v =>
  cases v<;>simp[SV.isSl]at hsl
  rename_i a len cap
  cases a with
  |none =>
   have h2:len=0/\cap=0:=by
    cases len<;>cases cap<;>simp_all
   obtain⟨rfl,rfl⟩:=h2;exact none_ 0 rfl rfl
  |some a=>simp at hsl
 |_=>simp[SV.isSl]at hsl
theorem Qvg (hS:Sim S) (he:QH S e a.tmps) {o:Oper} {i:I} (hc:Qaf P o.op i=true) (hs:(pv i e.ev S.H).1) :
 ∃ v,(execOp a.eval o).run P S.w=.ok (.value v) S.w/\VR S (pv i e.ev S.H).2 v:=by
 generalize hop:o.op=op at hc;have fin:∀ (m:Sem Value) (s:SV),(∃ v,m.run P S.w=.ok v S.w/\VR S s v) ->
  ∃ v,(do pure (Next.value (<- m)):Sem Next).run P S.w=.ok (.value v) S.w/\VR S s v:=by
  rintro m s ⟨v,h1,h2⟩; exact⟨v,by simp[h1],h2⟩
 cases i with
 |eqf neg ks x' y' =>
  simp only[Qaf]at hc;split at hc
  . rename_i op2 t x y yt;rw[Va,Va,Va]at hc;obtain⟨⟨⟨h1,h2⟩,h3⟩,h4⟩:=hc;simp only[pv]at hs ⊢;simp only[execOp,hop];split at hs
    . rename_i l m hl hm;simp only[];obtain⟨g1,g2,g3⟩:=hs;have k1:=(QD h1 he).ug g1;have k2:=(QD h2 he).ug g2;rw[hl]at k1; rw[hm]at k2;obtain⟨us,hu,hus⟩:=k1.agg_inv;obtain⟨vs,hv,hvs⟩:=k2.agg_inv;unfold Qul at h3;rw[Va,VL]at h3;obtain⟨q2,q3⟩:=h3;have done:(Op.equal t (.agg us.toArray) (.agg vs.toArray)).run P S.w=.ok (Qbu ks l m) S.w ->
       ∃ v,(execOp a.eval o).run P S.w=.ok (.value v) S.w/\VR S (bl (if neg=true then !Qbu ks l m else Qbu ks l m)) v:=by
       intro heq;simp only[execOp,hop];refine fin _ _ ⟨_,?_,.val _⟩;rw[hu,hv]
       cases neg with
       |true =>
        simp at h4; subst h4;simp[eqGuard,q2,binOp,heq]
       |false =>
        simp at h4; subst h4;simp[eqGuard,q2,binOp,heq]
      simp only[execOp,hop]at done;split at q3
      . rename_i fs hst;rw[Va,VL]at q3;obtain⟨q1,q3⟩:=q3;have hfo:P.fieldsOf t=fs:=by simp[Program.fieldsOf,hst]
        have hrun:=run_equalIn_struct (P:=P) S.w 9999 t us.toArray vs.toArray (by rw[hfo]; exact hst) q1;rw[hfo,Ql2 (S:=S) 9998 S.w fs.toList ks 0 l m us vs q3 hus hvs (by simp) (by simp) g3]at hrun;exact done hrun
      . rename_i n el hst;rw[Va,Va,Zs,Vi]at q3;obtain⟨⟨q4,q5⟩,q6⟩:=q3;obtain⟨inf,hinf,hsz⟩:∃ inf,P.info? el=some inf/\inf.size=1:=by
         unfold QaD at q5;split at q5
         . rename_i i hi; exact⟨i,hi,by simpa using q5⟩
         . cases q5
        have hco:P.cellsOf el=1:=by simp[Program.cellsOf,hinf,hsz]
        have hrun:=run_equalIn_array (P:=P) S.w 9999 us.toArray vs.toArray hst hinf;rw[hco,YU,<- q4,QsT (S:=S) 9998 S.w ks 0 l m us vs q6 hus hvs (by simp) (by simp) g3]at hrun;exact done hrun
      . cases q3
    . exact hs.elim
  . cases hc
 |mov y =>
  simp only[Qaf]at hc;split at hc
  . exact⟨_,by simp only[execOp,hop]; rfl,QD hc he⟩
  . exact⟨_,by simp only[execOp,hop]; rfl,QD hc he⟩
  . cases hc
 |pick c' a' b' =>
  simp only[Qaf]at hc;split at hc
  . rename_i c x y;simp only[Va]at hc;obtain⟨⟨h1,h2⟩,h3⟩:=hc;simp only[pv]at hs ⊢;obtain⟨g1,g2,g3⟩:=hs;have e1:=(QD h1 he).isB g1;have e2:=QD h2 he;have e3:=QD h3 he;simp only[execOp,hop]
    cases hb:(e.ev c').bool with
    |true =>
     have e4:=e2.isB (g2 hb);refine⟨.bool (e.ev a').bool,?_,.val _⟩;simp[asBool,e1,hb,e4]
    |false =>
     have e4:=e3.isB (g3 hb);refine⟨.bool (e.ev b').bool,?_,.val _⟩;simp[asBool,e1,hb,e4]
  . cases hc
 |bin op' k x' y' =>
  simp only[Qaf]at hc;split at hc
  . rename_i op2 t x y yt;simp only[Va,Zu]at hc;obtain⟨⟨⟨h1,h2⟩,h3⟩,h4⟩:=hc;subst h1;simp only[pv]at hs ⊢;simp only[execOp,hop];refine fin _ _ (QDi h4 (QD h2 he) (QD h3 he) ⟨?_,?_⟩ hs)
    . rintro rfl;simp only[Qg1,Va,Zv]at h4;have:=h4.2;split at this
      . rfl
      . cases this
    . rintro rfl;simp only[Qg1,Va,Vz,Zx]at h4;have:=h4.2;split at this
      . rfl
      . cases this
  . cases hc
 |neg k x' =>
  simp only[Qaf]at hc;split at hc
  . have h1:=(QD hc he).isI hs;refine⟨_,?_,.val _⟩;simp[execOp,hop,h1,Op.unary,Op.intArith]
  . cases hc
 |not x' =>
  simp only[Qaf]at hc;split at hc
  . have h1:=(QD hc he).isB hs;refine⟨_,?_,.val _⟩;simp[execOp,hop,h1,Op.unary]
  . cases hc
 |cvi k x' =>
  simp only[Qaf]at hc;split at hc
  . rename_i s d x;simp only[Va]at hc;obtain⟨⟨h1,h2⟩,h3⟩:=hc;obtain⟨ds,hds⟩:=YI.1 h2;obtain⟨k',hk⟩:=(QD h1 he).isN hs;split at h3
    . rename_i k2 hd;simp at h3; subst h3;refine⟨_,?_,.val _⟩;simp[execOp,hop,hk,convert,run_underlying hds,run_underlying hd,Conv.intToInt]
    . cases h3
  . cases hc
 |rst x' =>
  simp only[Qaf]at hc;split at hc
  . rename_i s d x;simp only[Va]at hc;obtain⟨⟨h1,h2⟩,h3⟩:=hc;obtain⟨ds,hds⟩:=YI.1 h2;obtain⟨k',hk⟩:=(QD h1 he).isN hs;split at h3
    . rename_i hd;refine⟨_,?_,.val _⟩;simp[execOp,hop,hk,convert,run_underlying hds,run_underlying hd,Conv.intToString]
    . cases h3
  . cases hc
 |ld1 p =>
  simp only[Qaf]at hc;split at hc
  . simp only[Va]at hc;simp only[pv]at hs ⊢;simp only[execOp,hop];exact fin _ _ (QrZ hS ((QD hc.1 he).ug hs.1) hc.2 hs.2)
  . cases hc
 |ldn n p =>
  simp only[Qaf]at hc;split at hc
  . simp only[Va]at hc;simp only[pv]at hs ⊢;simp only[execOp,hop];exact fin _ _ (Qo9 hS ((QD hc.1.1 he).ug hs.1) hc.1.2 hc.2 hs.2.1 hs.2.2)
  . cases hc
 |fa off p =>
  simp only[Qaf]at hc;split at hc
  . rename_i s x f;rw[Va]at hc;simp only[pv]at hs ⊢;simp only[execOp,hop];split at hs
    . rename_i s' k hp;simp only[];have h1:=(QD hc.1 he).ug hs;rw[hp]at h1;obtain⟨ad,h2,h3⟩:=Qmx (off:=off) h1;refine fin _ _ ⟨_,?_,h3⟩;rw[h2];exact QvV hc.2 _
    . exact hs.elim
  . cases hc
 |fld1 off x' =>
  simp only[Qaf]at hc;split at hc
  . simp only[Va]at hc;simp only[pv]at hs ⊢;simp only[execOp,hop];split at hs
    . rename_i l hl;simp only[];exact fin _ _ ((Qyo (QD hc.1.1 he) hs.1 hl hc.1.2 hc.2 S.w).1 rfl hs.2)
    . exact hs.elim
  . cases hc
 |ia sz s j =>
  simp only[Qaf]at hc;split at hc
  . simp only[Va]at hc;simp only[pv]at hs ⊢;simp only[execOp,hop];obtain⟨g1,g2,g3,g4,g5⟩:=hs;obtain⟨k,hk⟩:=(QD hc.1.2 he).isN g3;rw[hk];exact fin _ _ (Qzl ((QD hc.1.1 he).ug g1) g2 hc.2 g4 g5)
  . cases hc
 |gix g len sz cs j =>
  simp only[Qaf]at hc;split at hc
  . rename_i t g' ix;rw[Va,Va,Va,Zu]at hc;obtain⟨⟨⟨rfl,h2⟩,h1⟩,h3⟩:=hc;simp only[pv]at hs ⊢;simp only[execOp,hop];split at h3
    . rename_i n el hu;simp only[Va,Zu]at h3;obtain⟨g2,g3,g4⟩:=hs;unfold varB at h1;split at h1
      . rename_i us hg;have hc:=QrR (S:=S) h1;obtain⟨kk,hk⟩:=(QD h2 he).isN g2;refine fin _ _ ⟨_,?_,.ptrI cs cs.length _ ⟨g',0,none⟩ us hc.1 (hS.gl g' us hg).1 hc.2⟩;rw[hk];exact QrQ hu h3.2 ⟨g',0,none⟩ g3 (by rw[h3.1]; exact g4) S.w
      . cases h1
    . cases h3
  . cases hc
 |iap len sz p j =>
  simp only[Qaf]at hc;split at hc
  . rename_i t x ix;rw[Va,Va]at hc;obtain⟨⟨h1,h2⟩,h3⟩:=hc;simp only[pv]at hs ⊢;simp only[execOp,hop];split at h3
    . rename_i n el hu;simp only[Va,Zu]at h3;split at hs
      . rename_i s' k hp;simp only[];obtain⟨g1,g2,g3,g4⟩:=hs;have h4:=(QD h1 he).ug g1;rw[hp]at h4;obtain⟨ad,h5,h6⟩:=Qmx (off:=(e.ev j).int.toNat*sz) h4;obtain⟨kk,hk⟩:=(QD h2 he).isN g2;refine fin _ _ ⟨_,?_,h6⟩;rw[h5,hk];exact QrQ hu h3.2 ad g3 (by rw[h3.1]; exact g4) S.w
      . exact hs.elim
    . cases h3
  . cases hc
 |ixs s j =>
  simp only[Qaf]at hc;split at hc
  . rename_i t x ix;rw[Va,Va]at hc;obtain⟨⟨h1,h2⟩,h3⟩:=hc;simp only[pv]at hs ⊢;simp only[execOp,hop];split at h3
    . rename_i hu;obtain⟨g1,g2,g3,g4⟩:=hs;obtain⟨kk,hk⟩:=(QD h2 he).isN g2;have h4:=(QD h1 he).isS g1;refine fin _ _ ⟨_,?_,.val _⟩;rw[h4,hk];exact QD6 hu _ g3 g4 S.w
    . cases h3
  . cases hc
 |ixa len sz one s j =>
  simp only[Qaf]at hc;split at hc
  . rename_i t x ix;rw[Va,Va]at hc;obtain⟨⟨h1,h2⟩,h3⟩:=hc;simp only[pv]at hs ⊢;simp only[execOp,hop];split at h3
    . rename_i n el hu;rw[Va,Va,Zu]at h3;split at hs
      . rename_i l hl;simp only[];obtain⟨g1,g2,g3,g4,g5,g6⟩:=hs;have h4:=(QD h1 he).ug g1;rw[hl]at h4;obtain⟨us,h5,h6⟩:=h4.agg_inv;obtain⟨kk,hk⟩:=(QD h2 he).isN g2;rw[h5,hk];exact fin _ _ (QDu hu h3.1.2 h3.2 h6 (by rw[h3.1.1]; exact g5) g6 g3 (by rw[h3.1.1]; exact g4))
      . exact hs.elim
    . cases h3
  . cases hc
 |sl sz x' lo' hi' =>
  simp only[Qaf]at hc;split at hc
  . simp only[Va]at hc;obtain⟨⟨⟨h1,h2⟩,h3⟩,h4⟩:=hc;simp only[pv]at hs ⊢;simp only[execOp,hop];obtain⟨g1,g2,g3,g4,g5,g6,g7⟩:=hs;obtain⟨el,hu,hsz⟩:=Qm1 h4;exact fin _ _ (Qz5 hu hsz ((QD h1 he).ug g1) g2 h2 h3 he g4 g5 g6 g7 g3)
  . cases hc
 |sls x' lo' hi' =>
  simp only[Qaf]at hc;split at hc
  . rename_i t x lo hi;rw[Va,Va,Va]at hc;obtain⟨⟨⟨h1,h2⟩,h3⟩,h4⟩:=hc;simp only[pv]at hs ⊢;simp only[execOp,hop];obtain⟨g1,g4,g5,g6,g7⟩:=hs;split at h4
    . rename_i hu;have h5:=(QD h1 he).isS g1;refine fin _ _ ⟨_,?_,.val _⟩;rw[h5];simp only[Instr.sliceAt,Instr.slice,Vo,run_underlying hu,VA];rw[Zq (by simp)];simp only[Vo,Qps (P:=P) (isS:=false) h2 h3 he g4 g5 g6 g7 (Vb _) S.w,VA,VJ]
    . cases h4
  . cases hc
 |ext x' j =>
  simp only[Qaf]at hc;split at hc
  . simp only[Va,Zu]at hc;obtain⟨h1,rfl⟩:=hc;simp only[pv]at hs ⊢;simp only[execOp,hop];split at hs
    . rename_i l hl;simp only[];have h4:=(QD h1 he).ug hs.1;rw[hl]at h4;obtain⟨us,h5,h6⟩:=h4.tup_inv;obtain⟨u,h7,h8⟩:=h6.getD hs.2;refine fin _ _ ⟨u,?_,h8⟩;simp[h5,Instr.extract,h7]
    . exact hs.elim
  . cases hc
 |len x' =>
  simp only[Qaf]at hc;split at hc
  . rename_i as ts;split at hc
    . rename_i x t ha ht;rw[Va]at hc;obtain⟨h1,h2⟩:=hc;split at h2
      . rename_i el hu;simp only[pv]at hs ⊢;obtain⟨ad,cap,hv⟩:=((QD h1 he).ug hs.1).slen_spec hs.2;refine⟨_,?_,.val _⟩;have ha':as = #[x]:=by rw[<-ha]
        have ht':ts = #[t]:=by rw[<-ht]
        subst ha' ht';simp[execOp,hop,resolve,invoke,builtin,Builtin.len_,run_underlying hu,hv,goInt]
      . cases h2
    . cases hc
  . cases hc
 |lens x' =>
  simp only[Qaf]at hc;split at hc
  . rename_i as ts;split at hc
    . rename_i x t ha ht;rw[Va]at hc;obtain⟨h1,h2⟩:=hc;split at h2
      . rename_i hu;have h5:=(QD h1 he).isS hs;refine⟨_,?_,.val _⟩;have ha':as = #[x]:=by rw[<-ha]
        have ht':ts = #[t]:=by rw[<-ht]
        subst ha' ht';simp[execOp,hop,resolve,invoke,builtin,Builtin.len_,run_underlying hu,h5,goInt]
      . cases h2
    . cases hc
  . cases hc
 |mm mx k x' y' =>
  simp only[Qaf]at hc;split at hc
  . rename_i b as ts;split at hc
    . rename_i x y ha;rw[Va,Va]at hc;obtain⟨⟨h1,h2⟩,h3⟩:=hc;simp only[pv]at hs ⊢;have h5:=(QD h1 he).isI hs.1;have h6:=(QD h2 he).isI hs.2;have ha':as = #[x,y]:=by rw[<-ha]
      subst ha';refine⟨_,?_,.val _⟩
      cases mx with
      |true =>
       cases b<;>simp at h3
       simp[execOp,hop,resolve,invoke,builtin,Builtin.max_,Builtin.max2,h5,h6];omega
      |false =>
       cases b<;>simp at h3
       simp[execOp,hop,resolve,invoke,builtin,Builtin.min_,Builtin.min2,h5,h6];omega
    . cases hc
  . cases hc
 |mkf f first cap =>
  simp only[Qaf]at hc;split at hc
  . rename_i f' x y;rw[Va,Va]at hc;obtain⟨⟨h1,h2⟩,h3⟩:=hc;split at h1
    . simp at h1; subst h1;simp only[pv]at hs ⊢;simp only[execOp,hop];refine fin _ _ ⟨_,?_,VR.fn_of (Qkw h2 he) (Qkw h3 he)⟩;rw[Qua,Qua]; rfl
    . cases h1
  . cases hc
 |mki t x' =>
  simp only[Qaf]at hc;split at hc
  . rename_i t' x;rw[Va,Va,Zu]at hc;obtain⟨⟨rfl,h2⟩,h3⟩:=hc;simp only[pv]at hs ⊢;simp only[execOp,hop];refine fin _ _ ⟨_,run_makeInterface S.w _ _ ?_,.ifc _ _ _ (QD h2 he)⟩;unfold Program.concrete
    cases hu:P.underlying t' with
    |none=>rw[hu]at h3; cases h3
    |some d=>rw[hu]at h3; cases d<;>simp_all
  . cases hc
 |nck x' =>
  simp only[Qaf]at hc;split at hc
  . simp only[pv]at hs ⊢;split at hs
    . rename_i s k hp;simp only[];have h1:=(QD hc he).ug hs;rw[hp]at h1;obtain⟨ad,h2,_⟩:=Qmx (off:=0) h1;refine⟨_,?_,h1⟩;simp[execOp,hop,h2]
    . rename_i f x y hp;simp only[];have h1:=(QD hc he).ug hs;rw[hp]at h1;obtain⟨us,vs,hv,h2,h3⟩:=h1.fn_inv;exact⟨.func (.func f) us.toArray vs.toArray,by simp[execOp,hop,hv],VR.fn_of h2 h3⟩
    . exact hs.elim
  . cases hc
 |ifn neg right x' =>
  simp only[Qaf]at hc;split at hc
  . rename_i op2 t x y yt;rw[Va,Va,Va]at hc;obtain⟨⟨⟨h1,h2⟩,h3⟩,h4⟩:=hc;simp only[pv]at hs ⊢;obtain⟨g1,g2⟩:=hs;have k1:=(QD h2 he).ug g1;have hu:∃ ms,P.underlying t=some (.interface ms):=by
     unfold ifT at h4;split at h4
     . rename_i ms hu; exact⟨ms,hu⟩
     . cases h4
    obtain⟨ms,hu⟩:=hu;have hlit:(if right=true then y else x)=.const .nilIface:=by
     generalize (if right=true then y else x)=z at h3;split at h3
     . rfl
     . cases h3
    simp only[execOp,hop];have hv:(∃ t' w,a.eval (if right=true then x else y)=.iface t' w/\(e.ev x').ug.ifNil=false)\/(a.eval (if right=true then x else y)=.nilIface/\(e.ev x').ug.ifNil=true):=by
     generalize a.eval (if right=true then x else y)=v at k1;generalize (e.ev x').ug=s at k1 g2
     cases k1 with
     |ifc t' x v h=>exact .inl ⟨t',v,rfl,rfl⟩
     |val v=>cases v<;>simp_all [SV.isIf,SV.ifNil]
     |_=>simp[SV.isIf]at g2
    have q1:∀ (t':ZM) (w:Value),(Op.equal t (.iface t' w) .nilIface).run P S.w=.ok false S.w:=λt' w=>QyJ 9999 hu t' w;have q2:∀ (t':ZM) (w:Value),(Op.equal t .nilIface (.iface t' w)).run P S.w=.ok false S.w:=λt' w=>QwV 9999 hu t' w;have q3:(Op.equal t .nilIface .nilIface).run P S.w=.ok true S.w:=QD5 9999 hu;refine fin _ _ ⟨.bool (if(e.ev x').ug.ifNil=true then !neg else neg),?_,.val _⟩
    cases right with
    |true =>
     simp only[Zv]at hlit hv;subst hlit;have hev:a.eval (.const .nilIface)=.nilIface:=rfl;rw[hev];rcases hv with ⟨t',w,hv,hn⟩|⟨hv,hn⟩
     . rw[hv,hn]
       cases neg<;>simp at h1<;>subst h1<;>simp[eqGuard,binOp,q1]
     . rw[hv,hn]
       cases neg<;>simp at h1<;>subst h1<;>simp[eqGuard,binOp,q3]
    |false =>
     simp only[Zx,Vz]at hlit hv;subst hlit;have hev:a.eval (.const .nilIface)=.nilIface:=rfl;rw[hev];rcases hv with ⟨t',w,hv,hn⟩|⟨hv,hn⟩
     . rw[hv,hn]
       cases neg<;>simp at h1<;>subst h1<;>simp[eqGuard,binOp,q2]
     . rw[hv,hn]
       cases neg<;>simp at h1<;>subst h1<;>simp[eqGuard,binOp,q3]
  . cases hc
 |tas t ok z x' =>
  simp only[Qaf]at hc;split at hc
  . rename_i x xt t2 ok2;rw[Va,Va,Va,Va,Zu,Zu]at hc;obtain⟨⟨⟨⟨rfl,rfl⟩,h3⟩,h4⟩,h5⟩:=hc;simp only[pv]at hs ⊢;obtain⟨g1,g2,g3⟩:=hs;have k1:=(QD h3 he).ug g1;simp only[execOp,hop];obtain⟨d,hu,hni⟩:∃ d,P.underlying t2=some d/\∀ ms,d≠.interface ms:=by
     unfold Qq9 at h5;split at h5
     . cases h5
     . rename_i d hn hd; exact⟨d,hd,λms e=>hn ms e⟩
     . cases h5
    obtain⟨zv,hz,hzv⟩:=Qt0 (S:=S) h4;generalize a.eval x=v at k1;generalize (e.ev x').ug=s at k1 g2 g3;have nilc:v=.nilIface->s.ifIs t2=false->∃ r,(Instr.typeAssert v xt t2 ok2).run P S.w=.ok r S.w/\VR S (if ok2=true then(if s.ifIs t2=true then .tup [s.ifVal,bl true]else .tup [z,bl false])else s.ifVal) r:=by
     intro hv hn;rw[hn]at g3 ⊢;have hok:ok2=true:=g3.resolve_right (by simp);subst hok hv;refine⟨.tuple #[zv,.bool false],?_,?_⟩
     . simp only[Instr.typeAssert,Vo,run_underlying hu,VA]
       cases d<;>first|exact absurd rfl (hni _)|simp[hz]
     . simp only[Zv,Zx,Vz];exact .tup [z,bl false] [zv,.bool false] rfl (VRs.cons hzv (VRs.cons (.val _) (VRs.nil S))).2
    refine fin _ _ ?_
    cases k1 with
    |ifc t' y w hw =>
     by_cases ht:t'=t2
     . subst ht;simp only[SV.ifIs,SV.ifVal,beq_self_eq_true,Zv]
       cases ok2 with
       |true =>
        refine⟨.tuple #[w,.bool true],?_,?_⟩
        . simp only[Instr.typeAssert,Vo,run_underlying hu,VA]
          cases d<;>first|exact absurd rfl (hni _)|simp
        . exact .tup [y,bl true] [w,.bool true] rfl (VRs.cons hw (VRs.cons (.val _) (VRs.nil S))).2
       |false =>
        refine⟨w,?_,hw⟩;simp only[Instr.typeAssert,Vo,run_underlying hu,VA]
        cases d<;>first|exact absurd rfl (hni _)|simp
     . have hn:(SV.ifc t' y).ifIs t2=false:=by simp[SV.ifIs,ht]
       rw[hn]at g3 ⊢;have hok:ok2=true:=g3.resolve_right (by simp);subst hok;refine⟨.tuple #[zv,.bool false],?_,?_⟩
       . simp only[Instr.typeAssert,Vo,run_underlying hu,VA]
         cases d<;>first|exact absurd rfl (hni _)|simp[hz,ht]
       . simp only[Zv,Zx,Vz];exact .tup [z,bl false] [zv,.bool false] rfl (VRs.cons hzv (VRs.cons (.val _) (VRs.nil S))).2
    |val v=>cases v<;>first|exact nilc rfl rfl|simp[SV.isIf]at g2
    |_=>simp[SV.isIf]at g2
  . cases hc
 |iav sz s j =>
  simp only[Qaf]at hc;split at hc
  . rename_i t x ix;simp only[Va]at hc;obtain⟨⟨h1,h2⟩,h3⟩:=hc;simp only[pv]at hs ⊢;simp only[execOp,hop];split at hs
    . rename_i ad len cap hsl;obtain⟨g1,g2,g3,g4⟩:=hs;simp only[];refine fin _ _ ?_;have k1:=(QD h1 he).ug g1;rw[hsl]at k1;obtain⟨k,hv⟩:=(QD h2 he).isN g2;obtain⟨el,hu,hsz⟩:=Qm1 h3;have hx:a.eval x=.slice (some ad) len cap:=by
       generalize a.eval x=v at k1
       cases k1; rfl
      refine⟨_,?_,.val _⟩;rw[hv,hx];simp[Instr.indexAt,QfZ,run_underlying hu,g3,g4,Qeq hsz]
    . exact hs.elim
  . cases hc
 |bys x' =>
  simp only[Qaf]at hc;split at hc
  . rename_i sT dT x;rw[Va,Va]at hc;obtain⟨⟨h1,h2⟩,h3⟩:=hc;split at h2
    . rename_i hd;split at h3
      . rename_i el hu;split at h3
        . rename_i hel;simp only[pv]at hs ⊢;simp only[execOp,hop];obtain⟨g1,g2,g3⟩:=hs;refine fin _ _ ⟨_,?_,.val _⟩;exact QwP hS ((QD h1 he).ug g1) g2 g3 hu hel hd
        . cases h3
      . cases h3
    . cases h2
  . cases hc
 |lnv x' =>
  simp only[Qaf]at hc;split at hc
  . rename_i as ts;split at hc
    . rename_i x t ha ht;rw[Va]at hc;obtain⟨h1,h2⟩:=hc;split at h2
      . rename_i el hu;simp only[pv]at hs ⊢;split at hs
        . rename_i ad len cap hsl;simp only[];have k1:=(QD h1 he).ug hs;rw[hsl]at k1;have hv:a.eval x=.slice ad len cap:=by
           generalize a.eval x=v at k1
           cases k1; rfl
          refine⟨_,?_,.val _⟩;have ha':as = #[x]:=by rw[<-ha]
          have ht':ts = #[t]:=by rw[<-ht]
          subst ha' ht';simp[execOp,hop,resolve,invoke,builtin,Builtin.len_,run_underlying hu,hv,goInt]
        . exact hs.elim
      . cases h2
    . cases hc
  . cases hc
 |lkp kk ok z m' k' =>
  simp only[Qaf]at hc;split at hc
  . rename_i t m k ok';rw[Va,Va,Va,Zu]at hc;obtain⟨⟨⟨rfl,h1⟩,h2⟩,h3⟩:=hc;simp only[pv]at hs ⊢
    cases hmo:(e.ev m').ug.mapOf S.H with
    |none=>rw[hmo]at hs; exact hs.elim
    |some x =>
    rw[hmo]at hs;obtain⟨g1,g2,g3,g4⟩:=hs;obtain⟨kt,et,hu,hk,hz,hzz⟩:=QAJ h3;obtain⟨zv,hzr,hzv⟩:=Qt0 (S:=S) hz;have k1:=(QD h1 he).ug g1;obtain⟨k2,k3⟩:=(QD h2 he).isK g2;simp only[execOp,hop];obtain⟨es,hrun,hks,hvs⟩:=QxC hS k1 hmo;rw[hks]at g3 g4;rw[<-k2]at g4;obtain⟨r,hf,hr⟩:=QCj (S:=S) hk hzz hS k3 g3 g4 hvs;rw[hks];refine fin _ _ ?_;have hck:=QqP (P:=P) (w:=S.w) hk hzz k3 es.isEmpty;have hfk:=hf;have hlook:∀ (q:Option (Nat×Value)),(Instr.findKey kt (a.eval k) es.toList).run P S.w=.ok q S.w ->
     (Instr.lookup t (a.eval m) (a.eval k) ok').run P S.w=match q with
      |some (_,v)=>.ok (if ok'=true then .tuple #[v,.bool true]else v) S.w
      |none=>.ok (if ok'=true then .tuple #[zv,.bool false]else zv) S.w:=by
     intro q hq;rcases hrun with ⟨hm,rfl⟩|⟨r',cl,hm,hb⟩
     . rw[hm];have hck:(Instr.checkKey true 10000 kt (a.eval k)).run P S.w=.ok () S.w:=hck;have hq:(Instr.findKey kt (a.eval k) []).run P S.w=.ok q S.w:=hq
       cases q with
       |none=>cases ok'<;>simp[Instr.lookup,run_underlying hu,hck,hq,hzr,Result.andThen]
       |some q=>obtain⟨j,v⟩:=q; cases ok'<;>simp[Instr.lookup,run_underlying hu,hck,hq,Result.andThen]
     . rw[hm]
       cases q with
       |none=>cases ok'<;>simp[Instr.lookup,run_underlying hu,Go.MapKept.run_getObj_map hb,hck,hq,hzr,Result.andThen]
       |some q=>obtain⟨j,v⟩:=q; cases ok'<;>simp[Instr.lookup,run_underlying hu,Go.MapKept.run_getObj_map hb,hck,hq,Result.andThen]
    rw[<-k2]
    cases hl:lkm (a.eval k) (es.toList.map (·.key)) x.2 with
    |none =>
     rw[hl]at hr;subst hr;refine⟨_,hlook _ hfk,?_⟩
     cases ok' with
     |true=>exact .tup [z,bl false] [zv,.bool false] rfl (VRs.cons hzv (VRs.cons (.val _) (VRs.nil S))).2
     |false=>exact hzv
    |some s =>
     rw[hl]at hr;obtain⟨j,u,rfl,hsu⟩:=hr;refine⟨_,hlook _ hfk,?_⟩
     cases ok' with
     |true=>exact .tup [s,bl true] [u,.bool true] rfl (VRs.cons hsu (VRs.cons (.val _) (VRs.nil S))).2
     |false=>exact hsu
  . cases hc
 |no=>simp only[pv]at hs
 |kro T sz len z parts=>simp[Qaf]at hc
 |bld z parts =>
  simp only[Qaf]at hc;split at hc
  . rename_i t ps;simp only[Va]at hc;simp only[pv]at hs ⊢;simp only[execOp,hop];have:=QBS (ps:=ps.toList) hc.1.1 hc.1.2 hc.2 he hs;refine fin _ _ ?_;have e1:(ps.map λx=>(x.1,a.eval x.2))=(ps.toList.map λp=>(p.1,a.eval p.2)).toArray:=by cases ps; simp
    obtain⟨u,h1,h2⟩:=this;refine⟨u,?_,h2⟩;rw[<-h1,<- e1]
  . cases hc
end
end
end Go.Ab
namespace Go.Ab
section
variable [QO] [QK] [Qv]
inductive E where
 |alc (T:ZM) (z:ZJ)
 |box (T:ZM) (x:Od)
 |bsl (T:ZM) (sz len:Nat) (z:ZJ) (parts:List (Nat×Od))
 |mks (T:ZM) (sz bytes:Nat) (z:ZJ) (len cap:Od)
 |app (T:ZM) (sz bytes:Nat) (s x:Od)
 |st (n:Nat) (p x:Od)
 |stw (ws:List Nat) (n:Nat) (p x:Od)
 |call (f:Od) (args:List Od)
 |nil (T:ZM) (sz:Nat) (x:Od)
 |sby (x:Od)
 |aps (T:ZM) (s x:Od)
 |pan (x:Od)
 |mkm (T:ZM)
 |mup (kk:KK) (m k v:Od)
def Qag (s:ByteArray):ZJ:=s.data.toList.map λb=>.val (.int .u8 b.toNat)
def SV.isNil:SV->Bool
 |.val (.slice none 0 0)=>true
 |_=>false
def QF (l:ZJ):Prop:=∀ s∈l,s.isCell=true
def SV.els (H:ZI) (sz:Nat) (s:SV):ZJ:=(s.row H).take (s.slen*sz)
def setObj (H:ZI) (i:Nat) (f:AO->AO):ZI :=
 match H[i]? with
 |some o=>H.set i (f o)
 |none=>H
def AO.put (o:AO) (off:Nat) (cs:ZJ):AO:={ o with cells:=o.cells.take off++cs++o.cells.drop (off+cs.length) }
def AO.grow (o:AO) (cs:ZJ):AO:={ o with cells:=o.cells++cs,ver:=o.ver+1 }
def xe (i:E) (g:Od->SV) (H:ZI) (K:SV->ZI->Prop):Prop :=
 match i with
 |.alc T z=>K (.ptr (.own H.length 0 0 0 0) 0) (H++[⟨z,T,0,true⟩])
 |.box T x=>(g x).vd=true/\QF (g x).ug.flat/\K (.ptr (.own H.length 0 0 0 0) 0) (H++[⟨(g x).ug.flat,T,0,true⟩])
 |.bsl T sz len z parts =>
  (∀ p∈parts,QaW sz (g p.2)/\p.1*sz+sz<=len*sz)/\QF (Qba (List.replicate len z).flatten (parts.map λp=>(p.1*sz,g p.2))) /\
   K (.own H.length 0 len sz 0) (H++[⟨Qba (List.replicate len z).flatten (parts.map λp=>(p.1*sz,g p.2)),T,0,true⟩])
 |.mks T sz bytes z len cap =>
  (g len).isN=true/\(g cap).isN=true/\0<=(g len).int/\(g len).int<=(g cap).int/\bytes*(g cap).int<=140737488355328/\(g cap).int<=140737488355328 /\
   K (.own H.length 0 (g len).int.toNat sz 0) (H++[⟨(List.replicate (g len).int.toNat z).flatten,T,0,true⟩])
 |.app T sz bytes s x =>
  (g s).vd=true/\(g x).vd=true/\(g x).ug.isSl=true/\(g x).ug.slen*sz<=((g x).ug.row H).length/\QF ((g x).ug.els H sz) /\
   ((g s).ug.slen+(g x).ug.slen)*bytes<=140737488355328/\(g s).ug.slen+(g x).ug.slen<=140737488355328 /\
   match (g s).ug with
   |.own i 0 n sz' ver =>
    sz'=sz/\(∃ o,H[i]? = some o/\o.live=true/\o.ver=ver/\o.ty=T/\o.cells.length=n*sz)/\K (.own i 0 (n+(g x).ug.slen) sz (ver+1)) (setObj H i λo=>o.grow ((g x).ug.els H sz))
   |v=>v.isNil=true/\K (.own H.length 0 (g x).ug.slen sz 1) (H++[⟨(g x).ug.els H sz,T,1,true⟩])
 |.st n p x =>
  (g p).vd=true/\(g x).vd=true/\QF (g x).ug.flat/\(g x).ug.flat.length=n/\0<n /\
   match (g p).ug with
   |.ptr (.own i off _ _ ver) k=>off+k+n<=(Qo H i ver).length/\K (.val undef) (setObj H i λo=>o.put (off+k) (g x).ug.flat)
   |_=>False
 |.stw _ n p x =>
  (g p).vd=true/\(g x).vd=true/\QF (g x).ug.flat/\(g x).ug.flat.length=n/\0<n /\
   match (g p).ug with
   |.ptr (.own i off _ _ ver) k=>off+k+n<=(Qo H i ver).length/\K (.val undef) (setObj H i λo=>o.put (off+k) (g x).ug.flat)
   |_=>False
 |.nil T sz x=>(g x).vd=true/\(g x).ug.isNil=true/\K (.own H.length 0 0 sz 0) (H++[⟨[],T,0,true⟩])
 |.aps T s x =>
  (g s).vd=true/\(g x).isS=true/\(g s).ug.slen+(g x).str.size<=140737488355328 /\
   match (g s).ug with
   |.own i 0 n sz' ver =>
    sz'=1/\(∃ o,H[i]? = some o/\o.live=true/\o.ver=ver/\o.ty=T/\o.cells.length=n*1)/\K (.own i 0 (n+(g x).str.size) 1 (ver+1)) (setObj H i λo=>o.grow (Qag (g x).str))
   |v=>v.isNil=true/\K (.own H.length 0 (g x).str.size 1 1) (H++[⟨Qag (g x).str,T,1,true⟩])
 |.sby x=>(g x).isS=true/\K (.slc (Qag (g x).str) (g x).str.size) H
 |.mkm T=>K (.mp H.length 0) (H++[⟨[.mk []],T,0,false⟩])
 |.mup kk m k v=>(g m).vd=true/\(g k).isK kk=true/\(g v).vd=true /\
  match (g m).ug,(g m).ug.mapOf H with
  |.mp i _,some x=>x.1.all kk.is=true/\(∀ v∈(g k).key kk::x.1,kk.knows v)/\K (.val undef) (setObj H i λo=>{ o with cells:=.mk (Q9 ((g k).key kk) x.1)::Q6 ((g k).key kk) (g v).ug x.1 x.2 })
  |_,_=>False
 |_=>False
def Qg6 (P:ZN) (t:ZM) (sz bytes:Nat):Bool:=match P.info? t with|some i=>i.size==sz&&i.bytes==bytes&&(match i.zero with|some z=>z.cells.size==sz|none=>false)|none=>false
def QhM:List (Nat×Operand)->List (Nat×Od)->Bool
 |[],[]=>true
 | (f,x)::r,(f',y)::s=>f==f'&&Qx x y&&QhM r s
 |_,_=>false
def QhB (P:ZN) (t e:ZM):Bool:=match P.underlying t with|some (.slice e')=>e'==e|_=>false
def Qll (P:ZN) (t:ZM) (kk:KK):Bool :=
 match P.underlying t with
 |some (.map kt _)=>(match P.underlying kt with
  |some .string=>(match kk with|.s=>true|_=>false)
  |some (.int k)=>(match kk with|.i k'=>decide (k'=k)|_=>false)
  |some .bool=>(match kk with|.b=>true|_=>false)
  |some (.pointer e)=>(match kk with|.p e'=>decide (e'=e)&&(KK.p e').szB P|_=>false)
  |some (.array n t)=>(match kk with|.pp t' e'=>decide (n=2/\t'=t)&&(KK.pp t' e').szB P|_=>false)
  |_=>false)
 |_=>false
def QbF (P:ZN) (op:Op) (i:E):Bool :=
 match i with
 |.alc T z=>match op with|.alloc T'=>T'==T&&Qe4 P T z|_=>false
 |.box T x'=>match op with|.box T' x=>T'==T&&Qx x x'|_=>false
 |.bsl T sz len z parts=>match op with|.buildSlice t len' ps=>QhB P t T&&QaD P T sz&&len'==len&&Qe4 P T z&&z.length==sz&&decide (len*sz<=16777216)&&QhM ps.toList parts|_=>false
 |.mks T sz bytes z len cap=>match op with|.makeSlice t l c=>QhB P t T&&Qg6 P T sz bytes&&Qe4 P T z&&z.length==sz&&Qx l len&&Qx c cap|_=>false
 |.app T sz bytes s x=>match op with
  |.call { callee:=.builtin .append,args:=as,argTypes:=ts }=>(match as.toList,ts.toList with
   |[s',x'],[t,t']=>t==t'&&Qx s' s&&Qx x' x&&QhB P t T&&Qg6 P T sz bytes&&decide (0<sz)
   |_,_=>false)
  |_=>false
 |.st n p x=>match op with|.store t p' x'=>Qx p' p&&Qx x' x&&QaD P t n|_=>false
 |.stw _ n p x=>match op with|.store t p' x'=>Qx p' p&&Qx x' x&&QaD P t n|_=>false
 |.nil _ _ x=>match op with|.move x'|.assign x'=>Qx x' x|_=>false
 |.aps T s x=>match op with
  |.call { callee:=.builtin .append,args:=as,argTypes:=ts }=>(match as.toList,ts.toList with
   |[s',x'],[t,t']=>Qx s' s&&Qx x' x&&QhB P t T&&Qg6 P T 1 1&&(match P.underlying t' with|some .string=>true|_=>false)
   |_,_=>false)
  |_=>false
 |.sby x=>match op with
  |.convert src dst x'=>Qx x' x&&(match P.underlying src with|some .string=>true|_=>false) &&
   (match P.underlying dst with|some (.slice e)=>(match P.underlying e with|some (.int .u8)=>true|_=>false)|_=>false)
  |_=>false
 |.pan x=>match op with|.panic x'=>Qx x' x|_=>false
 |.mkm T=>match op with
  |.makeMap T' none=>T'==T
  |.makeMap T' (some (.const (.int _ _)))=>T'==T&&(match P.underlying T with|some (.map _ _)=>true|_=>false)
  |_=>false
 |.mup kk m k v=>match op with|.mapUpdate t m' k' v'|.insert t m' k' v'=>Qx m' m&&Qx k' k&&Qx v' v&&Qll P t kk|_=>false
 |.call f args=>match op with|.call { callee:=.value f',args:=as,argTypes:=_ }=>Qx f' f&&QfN as.toList args|_=>false
section
variable {P:ZN} {S:St} {e:Env} {a:Act}
theorem Qgd {t T:ZM} (h:QhB P t T=true):P.underlying t=some (.slice T):=by
 unfold QhB at h;split at h
 . rename_i e' hu; simp at h; subst h; exact hu
 . cases h
theorem QDw {t:ZM} {kk:KK} (h:Qll P t kk=true):∃ kt et,P.underlying t=some (.map kt et)/\P.underlying kt=some kk.desc/\kk.szB P=true:=by
 unfold Qll at h;split at h
 . rename_i kt et hu;have key:P.underlying kt=some kk.desc/\kk.szB P=true:=by
    split at h
    . rename_i hk; cases kk<;>simp at h; exact⟨hk,rfl⟩
    . rename_i k hk; cases kk<;>simp at h; subst h; exact⟨hk,rfl⟩
    . rename_i hk; cases kk<;>simp at h; exact⟨hk,rfl⟩
    . rename_i e hk
      cases kk<;>simp at h
      obtain⟨rfl,h2⟩:=h;exact⟨hk,h2⟩
    . rename_i n t' hk
      cases kk<;>simp at h
      obtain⟨⟨rfl,rfl⟩,h2⟩:=h;exact⟨hk,h2⟩
    . cases h
   exact⟨kt,et,hu,key.1,key.2⟩
 . cases h
theorem QuK {t:ZM} {sz bytes:Nat} (h:Qg6 P t sz bytes=true):∃ i z,P.info? t=some i/\i.zero=some z/\i.size=sz/\i.bytes=bytes/\z.cells.size=sz:=by
 unfold Qg6 at h;split at h
 . rename_i i hi;rw[Va,Va,Zu,Zu]at h;obtain⟨⟨h1,h2⟩,h3⟩:=h;split at h3
   . rename_i z hz; exact⟨i,z,hi,hz,h1,h2,by simpa using h3⟩
   . cases h3
 . cases h
theorem Qmi (w:ZO) (g:Nat) (cs cur:Array Value) (T:ZM) (f:Nat×Nat) (hg:w.heap[g]? = some (.cells cur T f)) :
 w.setRow g cs={ w with heap:=w.heap.setIfInBounds g (.cells cs T f) }:=by
 unfold World.setRow;congr 1;apply Ze;intro j;rw[Zf,Ym];have hlt:g<w.heap.size:=by
  rcases Vx g w.heap.size with h1|h1
  . exact h1
  . rw[V4 h1]at hg; cases hg
 by_cases h:g=j
 . subst h; rw[Zr rfl,Zr rfl,Zr hlt,hg]; rfl
 . rw[Zq h,Zq h]
theorem VR.els {s:SV} {v:Value} {sz:Nat} (hS:Sim S) (hv:VR S s v) (hs:s.isSl=true) (hl:s.slen*sz<=(s.row S.H).length) :
 ∃ ad cap us,v=.slice ad s.slen cap/\us.length=s.slen*sz/\VRs S (s.els S.H sz) us/\(∀ x,ad=some x->∀ j u,us[j]? = some u->S.w.cell? (x.add j)=some u)/\(ad=none->s.slen=0):=by
 cases hv with
 |slc cells len ad cap us hc hl' hi h =>
  simp only[SV.slen,SV.row,SV.els]at *;refine⟨some ad,cap,us.take (len*sz),rfl,by simp; omega,⟨by simp; omega,?_⟩,?_,λh=>by cases h⟩
  . exact(VRs.take (S:=S) ⟨hl',h⟩ _).2
  . intro x hx j u hj
    cases hx
    rw[VQ]at hj;split at hj
    . exact hi.1 j u hj
    . cases hj
 |nilslc=>exact⟨none,0,[],rfl,by simp[SV.slen],by simpa[SV.els,SV.row]using VRs.nil S,λx hx=>by(cases hx),λ_=>rfl⟩
 |own i off len sz' ver ad cap o ho hv hc hz h =>
  simp only[SV.slen,SV.row,SV.els,Yq]at *;by_cases h0:len*sz=0
  . refine⟨ad,cap,[],rfl,by simp[h0],?_,λx hx j u hj=>by simp at hj,hz⟩;rw[h0]; simpa using VRs.nil S
  . have hne:off<(Qo S.H i ver).length:=by omega
    obtain⟨o',b,us,rest,u,ho',hl',hv',hρ,hh,hvr,_⟩:=hS.read (Ve hne);rw[ho]at ho'; cases ho'
    have hcells:Qo S.H i ver=o.cells:=by
     unfold Qo; rw[ho]; simp[hl',hv']
    rw[hcells]at hl hne ⊢;have h2:=h hv';unfold St.OwnAt at h2;rw[hρ]at h2;have hlen0:len≠0:=λe=>h0 (by simp[e]);have had:ad=some ⟨b,off,none⟩:=by
     rcases h2 with h2|h2
     . omega
     . exact h2.1
    subst had;have hvd:=(hvr.drop off).take (len*sz);refine⟨_,cap,(us.drop off).take (len*sz),rfl,?_,hvd,?_,hz⟩
    . have:=hvr.1; simp; omega
    . intro x hx j u hj
      cases hx
      rw[VQ]at hj;split at hj
      . rw[VU]at hj;have hadd:(⟨b,off,none⟩:Addr).add j=⟨b,off+j,none⟩:=by unfold Addr.add; split<;>simp_all
        rw[hadd];unfold World.cell?;simp only[hh,Yv,Vz,Zx];have:off+j<us.length:=Qk hj;simp[Vc this,hj]
      . cases hj
 |val v =>
  have:v=.slice none 0 0:=by cases v<;>simp[SV.isSl]at hs; rename_i a b c; revert hs; cases a<;>cases b<;>cases c<;>simp
  subst this;exact⟨none,0,[],rfl,by simp[SV.slen],by simpa[SV.els,SV.row,SV.slen]using VRs.nil S,λx hx=>by(cases hx),λ_=>rfl⟩
 |_=>simp[SV.isSl]at hs
theorem VRs.oneCells {l:ZJ} {us:ZK} (h:VRs S l us) (hc:QF l):∀ u∈us,u.oneCell'=true:=by
 intro u hu;obtain⟨j,hj⟩:=VB hu;have hlt:j<l.length:=by rw[<-h.1]; exact Qk hj
 exact(h.2 j _ u (Ve hlt) hj).oneCell (hc _ (Vp hlt))
theorem VRs.unders {l:ZJ} {us:ZK} (h:VRs S l us) (hc:QF l):∀ s∈l,s.under S.H.length=true/\s.isCell=true:=by
 intro s hs;obtain⟨j,hj⟩:=VB hs;obtain⟨u,_,hv⟩:=h.get hj;exact⟨hv.under,hc s hs⟩
theorem VR.flat {s:SV} {v:Value} (h:VR S s v) (hc:QF s.flat):∃ us,v.cells=us.toArray/\VRs S s.flat us:=by
 cases h with
 |agg l us hl h=>exact⟨us,rfl,hl,h⟩
 |val v =>
  refine⟨[v],?_,VRs.cons (.val v) (VRs.nil S)⟩;have h1:=hc (.val v) (by simp[SV.flat]);simp only[SV.isCell]at h1
  cases v<;>simp_all [Value.cells,Value.oneCell']
 |any v=>have:=hc .any (by simp[SV.flat]); simp[SV.isCell]at this
 |gd b x v h0 h=>have:=hc (.gd b x) (by simp[SV.flat]); simp[SV.isCell]at this
 |nilslc=>exact⟨[_],rfl,VRs.cons .nilslc (VRs.nil S)⟩
 |slc cells len a cap us hc' hl hi h=>exact⟨[_],rfl,VRs.cons (.slc cells len a cap us hc' hl hi h) (VRs.nil S)⟩
 |own i off len sz ver a cap o ho hv hc' hz h=>exact⟨[_],rfl,VRs.cons (.own i off len sz ver a cap o ho hv hc' hz h) (VRs.nil S)⟩
 |ptrI cells len k a us hl hi h=>exact⟨[_],rfl,VRs.cons (.ptrI cells len k a us hl hi h) (VRs.nil S)⟩
 |ptrO i off len sz ver k a o ho hv h=>exact⟨[_],rfl,VRs.cons (.ptrO i off len sz ver k a o ho hv h) (VRs.nil S)⟩
 |tup l us hl h=>have:=hc (.tup l) (by simp[SV.flat]); simp[SV.isCell]at this
 |fn f x y us vs hl h hl' h'=>exact⟨[_],rfl,VRs.cons (.fn f x y us vs hl h hl' h') (VRs.nil S)⟩
 |ifc t x v h=>exact⟨[_],rfl,VRs.cons (.ifc t x v h) (VRs.nil S)⟩
 |yl i l o ho h=>have:=hc (.yl i) (by simp[SV.flat]); simp[SV.isCell]at this
 |mp i ver l o ho hv h=>exact⟨[_],rfl,VRs.cons (.mp i ver l o ho hv h) (VRs.nil S)⟩
 |mpf vs l es cl us hb hn hu hl h=>exact⟨[_],rfl,VRs.cons (.mpf vs l es cl us hb hn hu hl h) (VRs.nil S)⟩
end
end
section
variable [QO] [QK] [Qv]
section
variable {P:ZN} {S:St} {e:Env} {a:Act}
def Eff (P:ZN) (S:St) (a:Act) (o:Oper) (K:SV->ZI->Prop):Prop :=
 ∃ nv S' sv,((execOp a.eval o).run P S.w=.ok (.value nv) S'.w\/((execOp a.eval o).run P S.w=.ok .skip S'.w/\nv=undef)) /\
  Ext S.H.length S S'/\Sim S'/\VR S' sv nv/\K sv S'.H
theorem Qqz (S:St) (cells:ZJ) (T:ZM) (us rest:ZK):(S.new cells T 0 us rest).H[S.H.length]? = some ⟨cells,T,0,true⟩:=by simp[St.new]
theorem Qrg (hS:Sim S) {cells:ZJ} {T:ZM} {us:ZK} (hv:VRs S cells us) (hc:QF cells) {o:Oper} {K:SV->ZI->Prop}
 (hrun:(execOp a.eval o).run P S.w=.ok (.value (.pointer (some ⟨S.w.heap.size,0,none⟩))) (S.w.alloc (.cells us.toArray T)))
 (hK:K (.ptr (.own S.H.length 0 0 0 0) 0) (S.H++[⟨cells,T,0,true⟩])):Eff P S a o K:=by
 refine⟨.pointer (some ⟨S.w.heap.size,0,none⟩),S.new cells T 0 us [],_,.inl ?_,QoD S hS _ _ _ _ _,Qr5 hS T 0 [] hv (hv.unders hc),?_,hK⟩
 . rw[hrun]; simp[St.new]
 . exact .ptrO _ _ _ _ _ _ _ _ (Qqz S cells T us []) (Vb _) λ_=>⟨S.w.heap.size,by simp[St.new,Qa0],rfl⟩
theorem QsR (hS:Sim S) {cells:ZJ} {T:ZM} {us rest:ZK} {len cap sz:Nat} (hv:VRs S cells us) (hc:QF cells) {o:Oper} {K:SV->ZI->Prop}
 (hlc:len<=cap) (hsz:cap*sz<=(us++rest).length)
 (hrun:(execOp a.eval o).run P S.w=.ok (.value (.slice (some ⟨S.w.heap.size,0,none⟩) len cap)) (S.w.alloc (.cells (us++rest).toArray T)))
 (hK:K (.own S.H.length 0 len sz 0) (S.H++[⟨cells,T,0,true⟩])):Eff P S a o K:=by
 refine⟨.slice (some ⟨S.w.heap.size,0,none⟩) len cap,S.new cells T 0 us rest,_,.inl ?_,QoD S hS _ _ _ _ _,Qr5 hS T 0 rest hv (hv.unders hc),?_,hK⟩
 . rw[hrun]; simp[St.new]
 . refine .own _ _ _ _ _ _ _ _ (Qqz S cells T us rest) (Vb _) hlc (λh=>by cases h) λ_ => ?_;simp only[St.OwnAt,St.new,Qa0];refine .inr ⟨trivial,T,(us++rest).length,?_,by omega⟩;unfold World.shape?;rw[Qf7];simp
theorem Qcn {H:ZI} {i:Nat} {o:AO} (h:H[i]? = some o) (f:AO->AO):setObj H i f=H.set i (f o):=by unfold setObj; rw[h]
theorem Qrf:∀ {ps:List (Nat×Operand)} {qs:List (Nat×Od)},QhM ps qs=true->QH S e a.tmps ->
 ps.length=qs.length/\∀ (j:Nat) (p:Nat×Operand) (q:Nat×Od),ps[j]? = some p->qs[j]? = some q->p.1=q.1/\VR S (e.ev q.2) (a.eval p.2)
 |[],[],_,_=>⟨rfl,λj p q h=>by simp at h⟩
 |[],_::_,h,_=>by simp[QhM]at h
 |_::_,[],h,_=>by simp[QhM]at h
 | (f,x)::ps,(f',y)::qs,h,he=>by
  simp only[QhM,Va,Zu]at h;obtain⟨h1,h2⟩:=Qrf h.2 he;refine⟨by simp[h1],?_⟩;intro j p q hp hq
  cases j with
  |zero=>simp at hp hq; subst hp hq; exact⟨h.1.1,QD h.1.2 he⟩
  |succ j=>exact h2 j p q (by simpa using hp) (by simpa using hq)
theorem Qzw {z:ZK} (hz:0<z.length) (n j:Nat):(List.replicate n z).flatten[j]? = if j<n*z.length then z[j % z.length]? else none:=by
 induction n generalizing j with
 |zero=>simp
 |succ n ih =>
  rw[Zg,Zh,Za];by_cases h:j<z.length
  . rw[Zr h,Zr (by rw[YK]; omega),Nat.mod_eq_of_lt h]
  . rw[Zq h,ih];have e1:(j-z.length) % z.length=j % z.length:=by
     rw[<-Nat.mod_eq_sub_mod (by omega)]
    have e2:(j-z.length<n*z.length)↔(j<(n+1)*z.length):=by rw[YK]; omega
    simp only[e1,e2]
theorem Qqa {z:ZK} (n:Nat):madeCells z.toArray (n*z.length)=(List.replicate n z).flatten.toArray:=by
 apply Yy;simp only[madeCells,Array.toList_map,Array.toList_range];apply Ya;intro j;by_cases hz:0<z.length
 . rw[Qzw hz,Vs];by_cases h:j<n*z.length
   . rw[Zr h,YG h];have h2:j % z.length<z.length:=Nat.mod_lt _ hz;simp[h2]
   . rw[Zq h,VT (by simp; omega)]; rfl
 . have hz0:z=[]:=by cases z with|nil=>rfl|cons _ _=>simp at hz
   subst hz0;simp

theorem VRs.zeros {z:ZJ} {us:ZK} (h:VRs S z us) (n:Nat):VRs S (List.replicate n z).flatten (List.replicate n us).flatten:=by
 induction n with
 |zero=>simpa using VRs.nil S
 |succ n ih=>rw[Zg,Zg,Zh,Zh]; exact h.append ih
theorem QCM {z:ZJ} (h:QF z) (n:Nat):QF (List.replicate n z).flatten:=by
 intro s hs;simp only[List.mem_flatten,List.mem_replicate]at hs;obtain⟨l,⟨_,rfl⟩,hs⟩:=hs;exact h s hs
theorem Qg2 {α:Type} (z:List α) (n:Nat):(List.replicate n z).flatten.length=n*z.length:=by simp
end
end
section
variable [QO] [QK] [Qv]
section
variable {P:ZN} {S:St} {e:Env} {a:Act}
def E.isCall:E->Bool
 |.call _ _=>true
 |.pan _=>true
 |_=>false
theorem Q7 {H:ZI} {i:Nat} {o:AO} (ho:H[i]? = some o) (hl:o.live=true):Qo H i o.ver=o.cells:=by
 unfold Qo; rw[ho]; simp[hl]
theorem AO.grow_eq {o:AO} (h:o.live=true) (cs:ZJ):o.grow cs=⟨o.cells++cs,o.ty,o.ver+1,true⟩:=by cases o; simp[AO.grow]at *; exact h
theorem VR.own_inv {i off n sz ver:Nat} {v:Value} {o:AO} (h:VR S (.own i off n sz ver) v) (ho:S.H[i]? = some o) (hv:o.ver=ver) :
 ∃ ad cap,v=.slice ad n cap/\n<=cap/\(ad=none->n=0)/\S.OwnAt i off n sz ad cap:=by
 cases h with
 |own _ _ _ _ _ ad cap o' ho' hvl hcap hz hat =>
  rw[ho]at ho'; cases ho'
  exact⟨ad,cap,rfl,hcap,hz,hat hv⟩
theorem Qp0 (a:Act) (v:Value):a.eval (.const v)=v:=rfl
theorem VR.isNil {s:SV} {v:Value} (h:VR S s v) (hs:s.isNil=true):v=.slice none 0 0:=by
 unfold SV.isNil at hs;split at hs
 . cases h; rfl
 . cases hs
theorem Qse (l:ZK) (z:Array Value):l.toArray++z=(l++z.toList).toArray:=by apply Yy; simp
theorem QpV (z:Array Value) (n:Nat):(Builtin.zeroCells z n).toList.length=n*z.size:=by simp[Builtin.zeroCells]
theorem Qwc (w:ZO) (t tx ty e:ZM) (i:TypeInfo) (ht:P.underlying t=some (.slice e)) (hi:P.info? e=some i)
 (g sLen sCap:Nat) (cur:Array Value) (hg:w.heap[g]? = some (.cells cur e (0,0))) (x:Value) (m:Nat) (news:ZK) (hs:Src P i.size tx x m news w)
 (hroom:sLen+m<=sCap) (hfit:sLen*i.size+news.length<=cur.size) :
 (Builtin.append_ #[t,tx] ty #[.slice (some ⟨g,0,none⟩) sLen sCap,x]).run P w =
  .ok (.slice (some ⟨g,0,none⟩) (sLen+m) sCap) (w.setRow g (cur.toList.take (sLen*i.size)++news++cur.toList.drop (sLen*i.size+news.length)).toArray):=by
 have hst:=run_storeCells_at P g (sLen*i.size) e news 0 cur w hg (by simpa using hfit) hs.one;simp only[Yb]at hst;rcases hs.kind with ⟨e',hk⟩|hk<;>simp[Builtin.append_,run_underlying ht,run_underlying hk,sizeOf,typeInfo,hi,hs.len,hroom,hs.cells,Addr.add_lit,hst]
theorem Quf {sz:Nat} {t T:ZM} (hu:P.underlying t=some (.slice T)) {w:ZO} {adx:ZL} {m capx:Nat} {news:ZK} (hx2:news.length=m*sz)
 (hx4:∀ x,adx=some x->∀ j u,news[j]? = some u->w.cell? (x.add j)=some u) (hx5:adx=none->m=0) (h1:∀ u∈news,u.oneCell'=true):Src P sz t (.slice adx m capx) m news w:=by
 cases adx with
 |none =>
  have h0:=hx5 rfl;subst h0;have:news=[]:=VS (by rw[hx2]; simp);subst this;exact Src.ofNil w hu capx
 |some a=>exact Src.ofSlice w hu a m capx news hx2 (hx4 a rfl) h1
theorem Qj6 (hS:Sim S) {t t2 T ty:ZM} {sz bytes:Nat} (hu:P.underlying t=some (.slice T)) (hinf:Qg6 P T sz bytes=true)
 {i0 n ver:Nat} {ob:AO} (ho:S.H[i0]? = some ob) (hl:ob.live=true) (hver:ob.ver=ver) (hty:ob.ty=T) (hlen:ob.cells.length=n*sz)
 {ads:ZL} {cap:Nat} (hcap:n<=cap) (hz:ads=none->n=0) (h6:S.OwnAt i0 0 n sz ads cap)
 {xv:Value} {m:Nat} {news:ZK} {xs:ZJ} (hsr:Src P sz t2 xv m news S.w) (hx3:VRs S xs news) (g5:QF xs)
 (g6:(n+m)*bytes<=140737488355328) (g7:n+m<=140737488355328) :
 ∃ v' S',(Builtin.append_ #[t,t2] ty #[.slice ads n cap,xv]).run P S.w=.ok v' S'.w/\Ext S.H.length S S'/\Sim S' /\
  VR S' (.own i0 0 (n+m) sz (ver+1)) v'/\S'.H=S.H.set i0 (ob.grow xs):=by
 obtain⟨i,zv,hi,hzv,hsz,hby,hzs⟩:=QuK hinf;have hsr':Src P i.size t2 xv m news S.w:=by rw[hsz]; exact hsr
 have hx2:=hsr.newsLen;have hone:=hx3.oneCells g5;have hlt:i0<S.H.length:=Qk ho;have hself:∀ q:AO,(S.H.set i0 q)[i0]? = some q:=λq=>Vq hlt;have hgrow:∀ s∈(ob.cells++xs),s.under S.H.length=true/\s.isCell=true:=by
  intro s hs;simp only[Vt]at hs;rcases hs with hs|hs
  . exact hS.belL ho hl s hs
  . exact hx3.unders g5 s hs
 rw[AO.grow_eq hl];unfold St.OwnAt at h6
 cases hρ:S.ρ i0 with
 |none =>
  rw[hρ]at h6;obtain⟨rfl,rfl⟩:=h6;have Z:ob.cells=[]:=VS (by simpa using hlen);by_cases hm0:m=0
  . subst hm0;have hxs:xs=[]:=VS (by rw[<-hx3.1,hx2]; simp);subst hxs;have hn0:news=[]:=VS (by rw[hx2]; simp);rw[hn0]at hsr';have hr:=run_append_nothing (P:=P) S.w t t2 ty T i hu hi ads 0 0 (Vb _) xv hsr';have am:Ext S.H.length S ⟨S.ρ,S.H.set i0 ⟨ob.cells++[],ob.ty,ob.ver+1,true⟩,S.w⟩:=by
     refine⟨λj p hj hp => ?_,λk hk hn=>⟨rfl,?_⟩,Vb _,λ_ _ _ h=>h,λ_ r h=>⟨r,h⟩,rfl,rfl,rfl⟩
     . by_cases hij:j=i0
       . subst hij;rw[ho]at hp; cases hp
         exact⟨_,hself _,by simp,λ_=>rfl⟩
       . exact⟨p,by show(S.H.set i0 _)[j]? = _; rw[Vg (by omega)]; exact hp,Vb _,λ_=>rfl⟩
     . rintro⟨j,p,hp,hpl,hpρ⟩;by_cases hij:j=i0
       . simp only at hpρ; rw[hij,hρ]at hpρ; cases hpρ
       . simp only at hp; rw[Vg (by omega)]at hp; exact hn ⟨j,p,hp,hpl,hpρ⟩
    refine⟨.slice ads 0 0,⟨S.ρ,S.H.set i0 ⟨ob.cells++[],ob.ty,ob.ver+1,true⟩,S.w⟩,hr,am,?_,?_,rfl⟩
    . refine hS.step am (by simp) ?_ ?_
      . intro j p hp;by_cases hij:j=i0
        . subst hij;simp only[hself]at hp; cases hp
          refine .inr ⟨λ_=>by simp only[hρ]; simp[Z],λs hs => ?_,λe=>by cases e⟩;exact⟨by simpa using (hgrow s hs).1,λ_=>(hgrow s hs).2⟩
        . exact .inl ⟨by simp only at hp; rw[Vg (by omega)]at hp; exact hp,rfl,λ_ _ _=>rfl⟩
      . intro j k p q b' hj hk hjl hkl hρj hρk;have key:∀ (j:Nat) (p:AO),(S.H.set i0 ⟨ob.cells++[],ob.ty,ob.ver+1,true⟩)[j]? = some p->S.ρ j=some b'->S.H[j]? = some p:=by
         intro j' p' hp' hq';by_cases hij:j'=i0
         . rw[hij,hρ]at hq'; cases hq'
         . rw[Vg (by omega)]at hp'; exact hp'
        exact hS.inj j k p q b' (key j p hj hρj) (key k q hk hρk) hjl hkl hρj hρk
    . refine .own i0 0 0 sz _ ads 0 _ (hself _) (by simp[hver]) (Vb _) (λ_=>rfl) λ_ => ?_;simp[St.OwnAt,hρ]
  . simp only[Ye]at g6 g7;have hf0:(Builtin.firstCells i.size 0 (.slice ads 0 0)).run P S.w.drew=.ok (([]:ZK).toArray) S.w.drew:=by cases ads<;>simp[Builtin.firstCells,loadCells,loadCellsFrom]
    have hr:(Builtin.append_ #[t,t2] ty #[.slice ads 0 0,xv]).run P S.w =
     .ok (.slice (some ⟨S.w.heap.size,0,none⟩) m (grownCap S.w m 0 T)) (S.w.drew.alloc (.cells (news.toArray++Builtin.zeroCells zv.cells (grownCap S.w m 0 T-m)) T)):=by
     have:=run_append_grow_src (P:=P) S.w t t2 ty T i zv hu hi hzv ads 0 0 [] hf0 xv m news hsr' (by omega) (by omega) (growslice_fits (by omega) (by rw[hby]; simpa using g6));simp only[Ye,VG]at this;exact this
    generalize hg:grownCap S.w m 0 T=gc at hr;have hge:m<=gc:=by rw[<-hg]; exact grownCap_ge _ _ _ _
    have hS':=Qm2 hS (w':=S.w.drew) rfl rfl rfl rfl;have hE':=QkK (S:=S) (w':=S.w.drew) rfl rfl rfl rfl;have hmv:=QqH hS' (i:=i0) (o:=ob) (o':=⟨ob.cells++xs,ob.ty,ob.ver+1,true⟩) (us:=news) (Builtin.zeroCells zv.cells (gc-m)).toList ho (by simp) rfl
     (by simp only[Z,VG]; exact hx3.ext hE') hgrow
    have hme:=Qow (S:=⟨S.ρ,S.H,S.w.drew⟩) (i:=i0) (o:=ob) (o':=⟨ob.cells++xs,ob.ty,ob.ver+1,true⟩) (us:=news) (rest:=(Builtin.zeroCells zv.cells (gc-m)).toList) ho (by simp);refine⟨.slice (some ⟨S.w.heap.size,0,none⟩) m gc,_,hr.trans ?_,hE'.trans hme,hmv,?_,rfl⟩
    . rw[Qse,<- hty]; rfl
    . simp only[Ye];refine .own i0 0 _ sz _ _ _ _ (hself _) (by simp[hver]) hge (λh=>by cases h) λ_ => ?_;simp only[St.OwnAt,St.move,Qa0];refine .inr ⟨rfl,T,(news++(Builtin.zeroCells zv.cells (gc-m)).toList).length,?_,?_⟩
      . unfold World.shape?;have h9:=Qf7 S.w.drew (.cells (news++(Builtin.zeroCells zv.cells (gc-m)).toList).toArray ob.ty);simp only[World.size_drew]at h9 ⊢;rw[h9]; simp[hty]
      . simp only[Vj,hx2,QpV,hzs];rw[<-V9];have:m+(gc-m)=gc:=by omega
        rw[this]; simp
 |some b =>
  have h7:=hS.live i0 ob ho hl;rw[hρ]at h7 h6;obtain⟨us,rest,hh,hvr⟩:=h7;have hblt:b<S.w.heap.size:=hS.lt ⟨i0,ob,ho,AO.own_live hl,hρ⟩;have husl:us.length=n*sz:=by rw[hvr.1,hlen]
  by_cases hroom:n+m<=cap
  . -- there is room
    by_cases hm0:m=0
    . subst hm0;have hxs:xs=[]:=VS (by rw[<-hx3.1,hx2]; simp);subst hxs;have hn0:news=[]:=VS (by rw[hx2]; simp);rw[hn0]at hsr';have hr:=run_append_nothing (P:=P) S.w t t2 ty T i hu hi ads n cap hcap xv hsr';obtain⟨hs1,hs2⟩:=Qii hS (cells:=ob.cells++[]) (ver:=ob.ver+1) ho hl hρ (by omega) (us:=us) (rest:=rest) hh (by simp) (by simpa using hvr) hgrow (w':=S.w) (by
       have:S.w.heap.setIfInBounds b (.cells (us++rest).toArray ob.ty (0,0))=S.w.heap:=by
        apply Ze;intro j;rw[Ym];by_cases h:b=j
        . subst h; rw[Zr rfl,Zr hblt,hh]
        . rw[Zq h]
       rw[this])
      refine⟨.slice ads n cap,⟨S.ρ,S.H.set i0 ⟨ob.cells++[],ob.ty,ob.ver+1,true⟩,S.w⟩,hr,hs2,hs1,?_,rfl⟩;refine .own i0 0 _ sz _ ads cap _ (hself _) (by simp[hver]) (by omega) (by simpa using hz) λ_ => ?_;simpa[St.OwnAt,hρ]using h6
    . rcases h6 with h6|⟨h6,T',N,h8,h9⟩
      . omega
      subst h6;have hN:N=us.length+rest.length:=by
       unfold World.shape? at h8; rw[hh]at h8; simp at h8; omega
      have hfit:n*sz+m*sz<=us.length+rest.length:=by
       have:(n+m)*sz<=cap*sz:=YV _ hroom;rw[V9]at this; omega
      have hr:=Qwc (P:=P) S.w t t2 ty T i hu hi b n cap (us++rest).toArray (by rw[<-hty]; exact hh) xv m news hsr' hroom
       (by rw[hx2,hsz]; simpa using hfit)
      rw[Qmi S.w b _ _ ob.ty (0,0) hh]at hr;have hcells:((us++rest).toArray.toList.take (n*i.size)++news++(us++rest).toArray.toList.drop (n*i.size+news.length))=(us++news)++rest.drop (m*sz):=by
       rw[hsz,<- husl,hx2];simp[YW]
      rw[hcells]at hr;obtain⟨hs1,hs2⟩:=Qii hS (cells:=ob.cells++xs) (ver:=ob.ver+1) ho hl hρ (by omega) (us:=us++news) (rest:=rest.drop (m*sz)) hh (by simp[hx2]; omega) (hvr.append hx3) hgrow (w':=_) rfl;refine⟨_,_,hr,hs2,hs1,?_,rfl⟩;refine .own i0 0 _ sz _ _ cap _ (hself _) (by simp[hver]) hroom (λh=>by cases h) λ_ => ?_;simp only[St.OwnAt,hρ];exact .inr ⟨trivial,T',N,hs2.shape _ _ _ h8,h9⟩
  . -- a new row
    have hm0:m≠0:=by omega
    have holds:∀ j v,us[j]? = some v->S.w.cell? ((⟨b,0,none⟩:Addr).add j)=some v:=by
     intro j v hj;have hadd:(⟨b,0,none⟩:Addr).add j=⟨b,j,none⟩:=by unfold Addr.add; split<;>simp_all
     rw[hadd];unfold World.cell?;simp only[hh,Yv,Vz,Zx];simp[Vc (Qk hj),hj]
    have hr:∃ bb:Addr,(ads=some bb/\∀ j v,us[j]? = some v->S.w.cell? (bb.add j)=some v)\/ads=none:=by
     cases ads with
     |none=>exact⟨default,.inr rfl⟩
     |some bb =>
      refine⟨bb,.inl ⟨rfl,?_⟩⟩;rcases h6 with h6|⟨h6,_⟩
      . have:n=0:=by omega
        subst this;have:us=[]:=VS (by simpa using husl);subst this;intro j v hj; simp at hj
      . cases h6; exact holds
    have hrun:∃ gc,n+m<=gc/\(Builtin.append_ #[t,t2] ty #[.slice ads n cap,xv]).run P S.w =
     .ok (.slice (some ⟨S.w.heap.size,0,none⟩) (n+m) gc) (S.w.drew.alloc (.cells ((us++news)++(Builtin.zeroCells zv.cells (gc-(n+m))).toList).toArray T)):=by
     have hfc:(Builtin.firstCells i.size n (.slice ads n cap)).run P S.w.drew=.ok us.toArray S.w.drew:=by
      obtain⟨bb,hr|hr⟩:=hr
      . obtain⟨rfl,hol⟩:=hr;exact run_firstCells_some S.w.drew i.size n bb n cap us (by rw[husl,hsz]) (by simpa using hol)
      . subst hr;have:n=0:=hz rfl;subst this;have hus:us=[]:=VS (by simpa using husl);subst hus;exact run_firstCells_none S.w.drew i.size 0 0 cap
     refine⟨grownCap S.w (n+m) cap T,grownCap_ge _ _ _ _,?_⟩;rw[run_append_grow_src (P:=P) S.w t t2 ty T i zv hu hi hzv ads n cap us hfc xv m news hsr' (by omega) (by omega) (growslice_fits (by omega) (by rw[hby]; exact g6)),Qse]
    obtain⟨gc,hge,hrun⟩:=hrun;have hS':=Qm2 hS (w':=S.w.drew) rfl rfl rfl rfl;have hE':=QkK (S:=S) (w':=S.w.drew) rfl rfl rfl rfl;have hmv:=QqH hS' (i:=i0) (o:=ob) (o':=⟨ob.cells++xs,ob.ty,ob.ver+1,true⟩) (us:=us++news) (Builtin.zeroCells zv.cells (gc-(n+m))).toList ho (by simp) rfl
     ((hvr.append hx3).ext hE') hgrow
    have hme:=Qow (S:=⟨S.ρ,S.H,S.w.drew⟩) (i:=i0) (o:=ob) (o':=⟨ob.cells++xs,ob.ty,ob.ver+1,true⟩) (us:=us++news) (rest:=(Builtin.zeroCells zv.cells (gc-(n+m))).toList) ho (by simp);refine⟨.slice (some ⟨S.w.heap.size,0,none⟩) (n+m) gc,_,hrun.trans ?_,hE'.trans hme,hmv,?_,rfl⟩
    . simp[St.move,hty]
    . refine .own i0 0 _ sz _ _ _ _ (hself _) (by simp[hver]) hge (λh=>by cases h) λ_ => ?_;simp only[St.OwnAt,St.move,Qa0];refine .inr ⟨rfl,T,((us++news)++(Builtin.zeroCells zv.cells (gc-(n+m))).toList).length,?_,?_⟩
      . unfold World.shape?;have h9:=Qf7 S.w.drew (.cells ((us++news)++(Builtin.zeroCells zv.cells (gc-(n+m))).toList).toArray ob.ty);simp only[World.size_drew]at h9 ⊢;rw[h9]; simp[hty]
      . simp only[Vj,hx2,husl,QpV,hzs];rw[<-V9,<- V9];have:n+m+(gc-(n+m))=gc:=by omega
        rw[this]; simp
theorem QrJ (o:Obj):Ext S.H.length S ⟨S.ρ,S.H,S.w.drew.alloc o⟩ where
 obj:=λi p _ h=>⟨p,h,Vb _,λ_=>rfl⟩
 imm:=λk hk hn=>⟨Qbx _ _ hk,hn⟩
 size:=by simp
 shape:=λk T m h=>Qjf _ _ h
 loops:=λk r h=>Qh2 _ _ h
 os:=rfl
 tape:=rfl
 output:=rfl
theorem QzT (h:Sim S) (o:Obj):Sim ⟨S.ρ,S.H,S.w.drew.alloc o⟩ :=
 h.step (QrJ o) (Vb _) (λi p hp=>.inl ⟨hp,rfl,λb hb hl=>Qbx _ _ (h.lt ⟨i,p,hp,hl,hb⟩)⟩) λi j o o' b hi hj hl hl' h1 h2=>h.inj i j o o' b hi hj hl hl' h1 h2
theorem Qv4 (hS:Sim S) (s:ByteArray) (cap:Nat) (T:ZM) (f:Nat×Nat) (hc:s.size<=cap):Ext S.H.length S ⟨S.ρ,S.H,S.w.drew.alloc (.cells (bytesRow s cap) T f)⟩/\Sim ⟨S.ρ,S.H,S.w.drew.alloc (.cells (bytesRow s cap) T f)⟩ /\
 VR ⟨S.ρ,S.H,S.w.drew.alloc (.cells (bytesRow s cap) T f)⟩ (.slc (Qag s) s.size) (.slice (some ⟨S.w.heap.size,0,none⟩) s.size cap):=by
 refine⟨QrJ _,QzT hS _,.slc _ _ _ _ (s.data.toList.map λb=>.int .u8 b.toNat) hc (by simp[Qag]) ⟨?_,λ_ hrw => ?_,λ_ _=>.inr (by rw[Vi]; intro u hu; obtain⟨b,_,rfl⟩:=VC.1 hu; rfl)⟩ ?_⟩
 . intro j u hj;rw[Vs,V1]at hj;obtain⟨b,hb,rfl⟩:=hj;have hlt:j<s.data.size:=by have:=Qk hb; simpa using this
   have h1:=bytesRow_at s cap j hlt;have h2:=Qf7 S.w.drew (.cells (bytesRow s cap) T f);have hb':s.data[j]=b:=by
    have h3:s.data[j]? = some b:=by simpa using hb
    rw[V2 hlt]at h3; exact Option.some.inj h3
   rw[hb']at h1;have e:((⟨S.w.heap.size,0,none⟩:Addr).add j)=⟨S.w.heap.size,j,none⟩:=by simp[Addr.add]; exact λh=>h.symm
   rw[e];unfold World.cell?;rw[show S.w.drew.heap.size=S.w.heap.size from rfl]at h2;simp only[h2];exact h1
 . obtain⟨i,o,ho,hl,hρ⟩:=hrw;have:S.w.heap.size<S.w.heap.size:=hS.lt ⟨i,o,ho,hl,hρ⟩;omega
 . intro j u v h1 h2;simp only[Qag,Vs,V1]at h1 h2;obtain⟨b,hb,rfl⟩:=h1;obtain⟨b',hb',rfl⟩:=h2;rw[hb]at hb'; cases hb'
   exact .val _
theorem Qr4 (hS:Sim S) (he:QH S e a.tmps) {o:Oper} {i:E} (hc:QbF P o.op i=true) (hcall:i.isCall=false) {K:SV->ZI->Prop} (hs:xe i e.ev S.H K) :
 Eff P S a o K:=by
 generalize hop:o.op=op at hc
 cases i with
 |alc T z =>
  simp only[QbF]at hc;split at hc
  . rw[Va,Zu]at hc;obtain⟨rfl,hz⟩:=hc;obtain⟨zv,hrun,hv,Z⟩:=QlN (S:=S) hz;refine Qrg hS hv (λs h=>(Z s h).1) ?_ hs;simp[execOp,hop,Instr.alloc,hrun,newVar,newRow]
  . cases hc
 |box T x' =>
  simp only[QbF]at hc;split at hc
  . rw[Va,Zu]at hc;obtain⟨rfl,h1⟩:=hc;obtain⟨g1,g2,g3⟩:=hs;obtain⟨us,h2,h3⟩:=((QD h1 he).ug g1).flat g2;refine Qrg hS h3 g2 ?_ g3;simp[execOp,hop,Instr.box,newVar,newRow,h2]
  . cases hc
 |bsl T sz len z parts =>
  simp only[QbF]at hc;split at hc
  . rename_i t len' ps;simp only[Va,Zu,Zs]at hc;obtain⟨⟨⟨⟨⟨⟨h1,h2⟩,rfl⟩,h4⟩,h5⟩,h6⟩,h7⟩:=hc;obtain⟨g1,g2,g3⟩:=hs;have hu:=Qgd h1;obtain⟨zv,hrun,hv,Z⟩:=QlN (S:=S) h4;obtain⟨hl,hq⟩:=Qrf (e:=e) h7 he;have hzl:zv.cells.toList.length=sz:=by rw[hv.1,h5]
    have hvz:=hv.zeros len';obtain⟨cells,hf,hvf⟩:=Qmv (S:=S) (λi=>some (i*sz,sz)) (ps.toList.map λp=>(p.1,a.eval p.2)) (parts.map λp=>(p.1*sz,e.ev p.2))
     (List.replicate len' z).flatten (List.replicate len' zv.cells.toList).flatten hvz (by simpa using hl) (by
      intro j p q hpj hqj;rw[Vs]at hpj hqj
      cases hp0:ps.toList[j]? with
      |none=>rw[hp0]at hpj; cases hpj
      |some p0 =>
       cases hq0:parts[j]? with
       |none=>rw[hq0]at hqj; cases hqj
       |some q0 =>
        rw[hp0]at hpj; rw[hq0]at hqj;simp at hpj hqj;subst hpj hqj;obtain⟨k1,k2⟩:=hq j p0 q0 hp0 hq0;obtain⟨k3,k4⟩:=g1 q0 (Vw hq0);exact⟨sz,by simp[k1],k3,by rw[Qg2,h5]; exact k4,k2⟩)
    have hlen:cells.length=len'*sz:=by
     rw[hvf.1];have:∀ (qs:List (Nat×SV)) (z:ZJ),(∀ q∈qs,q.1+q.2.ug.flat.length<=z.length)->(Qba z qs).length=z.length:=by
      intro qs
      induction qs with
      |nil=>intro z _; rfl
      |cons q r ih =>
       intro z hz;obtain⟨off,v⟩:=q;have h8:=hz (off,v) (by simp);simp only[Qba];have h9:(z.take off++v.ug.flat++z.drop (off+v.ug.flat.length)).length=z.length:=by simp at h8 ⊢; omega
       rw[ih _ (by intro q hq; rw[h9]; exact hz q (by simp[hq]))];exact h9
     rw[this,Qg2,h5];intro q hq;simp only[VC]at hq;obtain⟨p,hp,rfl⟩:=hq;obtain⟨k3,k4⟩:=g1 p hp;have k5:(e.ev p.2).ug.flat.length=sz:=by
      unfold QaW at k3;split at k3
      . rename_i l hl; rw[hl]; exact k3.1
      . rename_i x hx;unfold SV.flat; split
        . rename_i l hl; exact absurd hl (hx l)
        . simp[k3.1]
     rw[Qg2,h5,k5]; exact k4
    refine QsR (rest:=[]) (cap:=len') hS hvf g2 (Vb _) (by simp[hlen]) ?_ g3;simp only[execOp,hop,Instr.buildSlice,Vo,run_underlying hu,VA,Qeq h2];rw[Zq (by omega)];have hzz:(Array.range (len'*sz)).map (λx=>zv.cells[x % zv.cells.size]!)=(List.replicate len' zv.cells.toList).flatten.toArray:=by
     have:=Qqa (z:=zv.cells.toList) len';rw[hzl]at this;rw[<-this]; simp[madeCells]
    have e1:(ps.map λx=>(x.1,a.eval x.2)).toList=ps.toList.map λp=>(p.1,a.eval p.2):=by simp
    by_cases h0:len'*sz=0
    . have hz0:(List.replicate len' zv.cells.toList).flatten=[]:=by
       apply VS; rw[Qg2,hzl]; exact h0
      rw[hz0]at hf;simp only[h0,Zv,VJ,Array.range_zero',Array.map_empty,e1,hf];simp[newRow]
    . simp only[h0,Zx,Vo,hrun,VA,VJ,hzz,e1,hf];simp[newRow]
  . cases hc
 |mks T sz bytes z len cap =>
  simp only[QbF]at hc;split at hc
  . rename_i t l c;simp only[Va,Zu]at hc;obtain⟨⟨⟨⟨⟨h1,h2⟩,h4⟩,h5⟩,h6⟩,h7⟩:=hc;obtain⟨g1,g2,g3,g4,g5,g6,g7⟩:=hs;have hu:=Qgd h1;obtain⟨i,zv,hi,hzv,hsz,hby,hzs⟩:=QuK h2;obtain⟨zv',hrun,hv,Z⟩:=QlN (S:=S) h4;have e1:zv'=zv:=by
     have:=hrun S.w;simp[zeroValue,typeInfo,hi,hzv]at this;exact this.symm
    subst e1;have hzl:zv'.cells.toList.length=sz:=by rw[hv.1,h5]
    obtain⟨kl,hkl⟩:=(QD h6 he).isN g1;obtain⟨kc,hkc⟩:=(QD h7 he).isN g2;have hm:=run_make (P:=P) S.w t T i zv' hu hi hzv kl kc (e.ev len).int (e.ev cap).int g3 g4 (by rw[hby]; omega) (by omega);have hme:madeCells zv'.cells ((e.ev cap).int.toNat*i.size)=((List.replicate (e.ev len).int.toNat zv'.cells.toList).flatten++(List.replicate ((e.ev cap).int.toNat-(e.ev len).int.toNat) zv'.cells.toList).flatten).toArray:=by
     have h8:=Qqa (z:=zv'.cells.toList) (e.ev cap).int.toNat;rw[hzl]at h8;rw[hsz];have h9:(e.ev cap).int.toNat=(e.ev len).int.toNat+((e.ev cap).int.toNat-(e.ev len).int.toNat):=by omega
     rw[<-Zi,List.replicate_append_replicate,<- h9,<- h8]
    refine QsR (cap:=(e.ev cap).int.toNat) (rest:=(List.replicate ((e.ev cap).int.toNat-(e.ev len).int.toNat) zv'.cells.toList).flatten) hS (hv.zeros _) (QCM (λs h=>(Z s h).1) _) (by omega) ?_ ?_ g7
    . rw[Vj,Qg2,Qg2,hzl,<- V9];apply YV; omega
    . rw[<-hme];simp[execOp,hop,hkl,hkc,hm]
  . cases hc
 |app T sz bytes s x =>
  simp only[QbF]at hc;split at hc
  . rename_i as ts;split at hc
    . rename_i s' x' t t' ha ht;simp only[Va,Zu,Zs]at hc;obtain⟨⟨⟨⟨⟨rfl,h1⟩,h2⟩,h3⟩,h4⟩,h5⟩:=hc;obtain⟨g1,g2,g3,g4,g5,g6,g7,g8⟩:=hs;have ha':as = #[s',x']:=by rw[<-ha]
      have ht':ts = #[t,t]:=by rw[<-ht]
      subst ha' ht';obtain⟨adx,capx,news,hx1,hx2,hx3,hx4,hx5⟩:=VR.els hS ((QD h2 he).ug g2) g3 g4;have hs0:=(QD h1 he).ug g1;split at g8
      . rename_i i0 n sz' ver hown;rw[hown]at g6 g7 hs0;simp only[SV.slen]at g6 g7;obtain⟨rfl,⟨ob,ho,hl,hver,hty,hlen⟩,hK⟩:=g8;rw[Qcn ho]at hK;obtain⟨ads,cap,hsv,hcap,hz,hat⟩:=hs0.own_inv ho hver;obtain⟨v',S',hr,am,aj,hvr,hH⟩:=Qj6 (ty:=o.type) hS (Qgd h3) h4 ho hl hver hty hlen hcap hz hat (Quf (capx:=capx) (Qgd h3) hx2 hx4 hx5 (hx3.oneCells g5)) hx3 g5 g6 g7;refine⟨v',S',_,.inl ?_,am,aj,hvr,?_⟩
        . have h9:(execOp a.eval o).run P S.w=((Builtin.append_ #[t,t] o.type #[.slice ads n cap,.slice adx (e.ev x).ug.slen capx]).run P S.w).andThen λv w'=>.ok (.value v) w':=by
           simp[execOp,hop,resolve,invoke,builtin,hsv,hx1]
          rw[h9,hr]; rfl
        . rw[hH]; exact hK
      . obtain⟨hnil,hK⟩:=g8;have hsv:=hs0.isNil hnil;have hn0:(e.ev s).ug.slen=0:=by
         generalize (e.ev s).ug=w at hnil
         cases w<;>simp[SV.isNil]at hnil<;>rfl
        rw[hn0]at g6 g7;have hap:=Qj6 (ty:=o.type) (i0:=S.H.length) (n:=0) (ver:=0) (ob:=⟨[],T,0,true⟩) (ads:=none) (cap:=0) (QlZ hS T) (Qgd h3) h4 (by simp[St.newNil]) rfl rfl rfl (by simp) (Vb _) (λ_=>rfl)
         (by simp[St.OwnAt,St.newNil,Qa0]) (Quf (w:=(S.newNil T).w) (capx:=capx) (Qgd h3) hx2 hx4 hx5 (hx3.oneCells g5)) (hx3.ext (Qhi S T)) g5 g6 g7
        obtain⟨v',S',hr,am,aj,hvr,hH⟩:=hap;have hl0:S.H.length<=(S.newNil T).H.length:=by simp[St.newNil]
        refine⟨v',S',_,.inl ?_,(Qhi S T).trans (am.mono hl0),aj,hvr,?_⟩
        . have h9:(execOp a.eval o).run P S.w=((Builtin.append_ #[t,t] o.type #[.slice none 0 0,.slice adx (e.ev x).ug.slen capx]).run P S.w).andThen λv w'=>.ok (.value v) w':=by
           simp[execOp,hop,resolve,invoke,builtin,hsv,hx1]
          have hr':(Builtin.append_ #[t,t] o.type #[.slice none 0 0,.slice adx (e.ev x).ug.slen capx]).run P S.w=.ok v' S'.w:=hr;rw[h9,hr']; rfl
        . rw[hH];have:(S.newNil T).H.set S.H.length ((⟨[],T,0,true⟩:AO).grow ((e.ev x).ug.els S.H sz))=S.H++[⟨(e.ev x).ug.els S.H sz,T,1,true⟩]:=by
           simp[St.newNil,AO.grow]
          rw[this,Ye]; exact hK
    . cases hc
  . cases hc
 |st n p x =>
  simp only[QbF]at hc;split at hc
  . rename_i t p' x';simp only[Va]at hc;obtain⟨⟨h1,h2⟩,h3⟩:=hc;obtain⟨g1,g2,g3,g4,g5,g6⟩:=hs;obtain⟨us,hx1,hx2⟩:=((QD h2 he).ug g2).flat g3;have hp:=(QD h1 he).ug g1;split at g6
    . rename_i i0 off l0 s0 ver k hpt;rw[hpt]at hp;obtain⟨g6,hK⟩:=g6;have hk0:off+k<(Qo S.H i0 ver).length:=by omega
      obtain⟨ob,b,us0,rest,u,ho,hl,hver,hρ,hh,hvr,_⟩:=hS.read (Ve hk0);have hob:Qo S.H i0 ver=ob.cells:=by rw[<-hver]; exact Q7 ho hl
      rw[hob]at g6;rw[Qcn ho]at hK;have husl:us.length=n:=by rw[hx2.1,g4]
      have hus0:us0.length=ob.cells.length:=hvr.1;generalize hpv:a.eval p'=pv at hp
      cases hp with
      |ptrO _ _ _ _ _ _ ad o' ho' hvl hat =>
       rw[ho]at ho'; cases ho'
       obtain⟨b',hb',had⟩:=hat hver;rw[hρ]at hb'; cases hb'
       subst had;have hst:=run_storeCells_at P b (off+k) ob.ty us 0 (us0++rest).toArray S.w hh (by simp; omega) (hx2.oneCells g3);simp only[Yb]at hst;rw[Qmi S.w b _ _ ob.ty (0,0) hh]at hst;have hcells:((us0++rest).toArray.toList.take (off+k)++us++(us0++rest).toArray.toList.drop (off+k+us.length))=(us0.take (off+k)++us++us0.drop (off+k+us.length))++rest:=by
        have e1:off+k<=us0.length:=by omega
        have e2:off+k+us.length<=us0.length:=by omega
        simp[YX e1,YY e2]
       rw[hcells]at hst;have hv':VRs S (ob.cells.take (off+k)++(e.ev x).ug.flat++ob.cells.drop (off+k+(e.ev x).ug.flat.length)) (us0.take (off+k)++us++us0.drop (off+k+us.length)):=by
        have:us.length=(e.ev x).ug.flat.length:=hx2.1;rw[this];exact((hvr.take _).append hx2).append (hvr.drop _)
       have hput:ob.put (off+k) (e.ev x).ug.flat=⟨ob.cells.take (off+k)++(e.ev x).ug.flat++ob.cells.drop (off+k+(e.ev x).ug.flat.length),ob.ty,ob.ver,true⟩:=by
        cases ob; simp[AO.put]at *; exact hl
       rw[hput]at hK;obtain⟨hs1,hs2⟩:=Qii hS (cells:=ob.cells.take (off+k)++(e.ev x).ug.flat++ob.cells.drop (off+k+(e.ev x).ug.flat.length)) (ver:=ob.ver) ho hl hρ (Vb _)
        (us:=us0.take (off+k)++us++us0.drop (off+k+us.length)) (rest:=rest) hh (by simp; omega) hv' (by
         intro s hs;simp only[Vt]at hs;rcases hs with (hs|hs)|hs
         . exact hS.belL ho hl s (Yo hs)
         . exact hx2.unders g3 s hs
         . exact hS.belL ho hl s (YR hs)) (w':=_) rfl
       refine⟨undef,_,_,.inr ⟨?_,rfl⟩,hs2,hs1,.val _,hK⟩;simp only[execOp,hop,hpv,Instr.storeAt,Instr.sureAddr,Vo,VJ,VA,storeVar,Qeq h3,hx1];rw[Zq (by simp[husl])];simp only[hst,VA]
    . exact g6.elim
  . cases hc
 |stw ws n p x =>
  simp only[QbF]at hc;split at hc
  . rename_i t p' x';simp only[Va]at hc;obtain⟨⟨h1,h2⟩,h3⟩:=hc;obtain⟨g1,g2,g3,g4,g5,g6⟩:=hs;obtain⟨us,hx1,hx2⟩:=((QD h2 he).ug g2).flat g3;have hp:=(QD h1 he).ug g1;split at g6
    . rename_i i0 off l0 s0 ver k hpt;rw[hpt]at hp;obtain⟨g6,hK⟩:=g6;have hk0:off+k<(Qo S.H i0 ver).length:=by omega
      obtain⟨ob,b,us0,rest,u,ho,hl,hver,hρ,hh,hvr,_⟩:=hS.read (Ve hk0);have hob:Qo S.H i0 ver=ob.cells:=by rw[<-hver]; exact Q7 ho hl
      rw[hob]at g6;rw[Qcn ho]at hK;have husl:us.length=n:=by rw[hx2.1,g4]
      have hus0:us0.length=ob.cells.length:=hvr.1;generalize hpv:a.eval p'=pv at hp
      cases hp with
      |ptrO _ _ _ _ _ _ ad o' ho' hvl hat =>
       rw[ho]at ho'; cases ho'
       obtain⟨b',hb',had⟩:=hat hver;rw[hρ]at hb'; cases hb'
       subst had;have hst:=run_storeCells_at P b (off+k) ob.ty us 0 (us0++rest).toArray S.w hh (by simp; omega) (hx2.oneCells g3);simp only[Yb]at hst;rw[Qmi S.w b _ _ ob.ty (0,0) hh]at hst;have hcells:((us0++rest).toArray.toList.take (off+k)++us++(us0++rest).toArray.toList.drop (off+k+us.length))=(us0.take (off+k)++us++us0.drop (off+k+us.length))++rest:=by
        have e1:off+k<=us0.length:=by omega
        have e2:off+k+us.length<=us0.length:=by omega
        simp[YX e1,YY e2]
       rw[hcells]at hst;have hv':VRs S (ob.cells.take (off+k)++(e.ev x).ug.flat++ob.cells.drop (off+k+(e.ev x).ug.flat.length)) (us0.take (off+k)++us++us0.drop (off+k+us.length)):=by
        have:us.length=(e.ev x).ug.flat.length:=hx2.1;rw[this];exact((hvr.take _).append hx2).append (hvr.drop _)
       have hput:ob.put (off+k) (e.ev x).ug.flat=⟨ob.cells.take (off+k)++(e.ev x).ug.flat++ob.cells.drop (off+k+(e.ev x).ug.flat.length),ob.ty,ob.ver,true⟩:=by
        cases ob; simp[AO.put]at *; exact hl
       rw[hput]at hK;obtain⟨hs1,hs2⟩:=Qii hS (cells:=ob.cells.take (off+k)++(e.ev x).ug.flat++ob.cells.drop (off+k+(e.ev x).ug.flat.length)) (ver:=ob.ver) ho hl hρ (Vb _)
        (us:=us0.take (off+k)++us++us0.drop (off+k+us.length)) (rest:=rest) hh (by simp; omega) hv' (by
         intro s hs;simp only[Vt]at hs;rcases hs with (hs|hs)|hs
         . exact hS.belL ho hl s (Yo hs)
         . exact hx2.unders g3 s hs
         . exact hS.belL ho hl s (YR hs)) (w':=_) rfl
       refine⟨undef,_,_,.inr ⟨?_,rfl⟩,hs2,hs1,.val _,hK⟩;simp only[execOp,hop,hpv,Instr.storeAt,Instr.sureAddr,Vo,VJ,VA,storeVar,Qeq h3,hx1];rw[Zq (by simp[husl])];simp only[hst,VA]
    . exact g6.elim
  . cases hc
 |nil T sz x =>
  obtain⟨g1,g2,g3⟩:=hs;have hv:∀ (x':Operand),Qx x' x=true->a.eval x'=.slice none 0 0:=by
   intro x' h;exact((QD h he).ug g1).isNil g2
  have main:(execOp a.eval o).run P S.w=.ok (.value (.slice none 0 0)) S.w:=by
   simp only[QbF]at hc;split at hc
   . simp[execOp,hop,hv _ hc]
   . simp[execOp,hop,hv _ hc]
   . cases hc
  refine⟨_,S.newNil T,_,.inl main,Qhi S T,QlZ hS T,?_,g3⟩;refine .own _ 0 0 sz 0 none 0 ⟨[],T,0,true⟩ (by simp[St.newNil]) (Vb _) (Vb _) (λ_=>rfl) λ_ => ?_;simp[St.OwnAt,St.newNil,Qa0]
 |aps T s x =>
  simp only[QbF]at hc;split at hc
  . rename_i as ts;split at hc
    . rename_i s' x' t t' ha ht;simp only[Va]at hc;obtain⟨⟨⟨⟨h1,h2⟩,h3⟩,h4⟩,h5⟩:=hc;split at h5
      . rename_i ht2;obtain⟨g1,g2,g3,g8⟩:=hs;have ha':as = #[s',x']:=by rw[<-ha]
        have ht':ts = #[t,t']:=by rw[<-ht]
        subst ha' ht';have hx1:=(QD h2 he).isS g2;have hs0:=(QD h1 he).ug g1;have hsrc:∀ w,Src P 1 t' (.string (e.ev x).str) (e.ev x).str.size (byteCells (e.ev x).str) w:=λw=>Src.ofString w ht2 _;have hx3:∀ S:St,VRs S (Qag (e.ev x).str) (byteCells (e.ev x).str):=λS=>by
         refine⟨by simp[Qag,byteCells],λj a b h6 h7 => ?_⟩;simp only[Qag,byteCells,Vs,V1]at h6 h7;obtain⟨c,h6,rfl⟩:=h6;obtain⟨d,h7,rfl⟩:=h7;rw[h6]at h7; cases h7
         exact .val _
        have g5:QF (Qag (e.ev x).str):=by
         intro c hc;simp only[Qag,VC]at hc;obtain⟨b,_,rfl⟩:=hc;rfl
        split at g8
        . rename_i i0 n sz' ver hown;rw[hown]at g3 hs0;simp only[SV.slen]at g3;obtain⟨rfl,⟨ob,ho,hl,hver,hty,hlen⟩,hK⟩:=g8;rw[Qcn ho]at hK;obtain⟨ads,cap,hsv,hcap,hz,hat⟩:=hs0.own_inv ho hver;obtain⟨v',S',hr,am,aj,hvr,hH⟩:=Qj6 (ty:=o.type) hS (Qgd h3) h4 ho hl hver hty hlen hcap hz hat (hsrc _) (hx3 S) g5 (by omega) g3;refine⟨v',S',_,.inl ?_,am,aj,hvr,?_⟩
          . have h9:(execOp a.eval o).run P S.w=((Builtin.append_ #[t,t'] o.type #[.slice ads n cap,.string (e.ev x).str]).run P S.w).andThen λv w'=>.ok (.value v) w':=by
             simp[execOp,hop,resolve,invoke,builtin,hsv,hx1]
            rw[h9,hr]; rfl
          . rw[hH]; exact hK
        . obtain⟨hnil,hK⟩:=g8;have hsv:=hs0.isNil hnil;have hn0:(e.ev s).ug.slen=0:=by
           generalize (e.ev s).ug=w at hnil
           cases w<;>simp[SV.isNil]at hnil<;>rfl
          rw[hn0]at g3;have hap:=Qj6 (ty:=o.type) (i0:=S.H.length) (n:=0) (ver:=0) (ob:=⟨[],T,0,true⟩) (ads:=none) (cap:=0) (QlZ hS T) (Qgd h3) h4 (by simp[St.newNil]) rfl rfl rfl (by simp) (Vb _) (λ_=>rfl)
           (by simp[St.OwnAt,St.newNil,Qa0]) (hsrc _) (hx3 _) g5 (by omega) g3
          obtain⟨v',S',hr,am,aj,hvr,hH⟩:=hap;have hl0:S.H.length<=(S.newNil T).H.length:=by simp[St.newNil]
          refine⟨v',S',_,.inl ?_,(Qhi S T).trans (am.mono hl0),aj,hvr,?_⟩
          . have h9:(execOp a.eval o).run P S.w=((Builtin.append_ #[t,t'] o.type #[.slice none 0 0,.string (e.ev x).str]).run P S.w).andThen λv w'=>.ok (.value v) w':=by
             simp[execOp,hop,resolve,invoke,builtin,hsv,hx1]
            have hr':(Builtin.append_ #[t,t'] o.type #[.slice none 0 0,.string (e.ev x).str]).run P S.w=.ok v' S'.w:=hr;rw[h9,hr']; rfl
          . rw[hH];have:(S.newNil T).H.set S.H.length ((⟨[],T,0,true⟩:AO).grow (Qag (e.ev x).str))=S.H++[⟨Qag (e.ev x).str,T,1,true⟩]:=by
             simp[St.newNil,AO.grow]
            rw[this,Ye]; exact hK
      . cases h5
    . cases hc
  . cases hc
 |sby x =>
  obtain⟨g1,g2⟩:=hs;simp only[QbF]at hc;split at hc
  . rename_i src dst x';rw[Va,Va]at hc;obtain⟨⟨h1,h2⟩,h3⟩:=hc;split at h2
    . rename_i hu;split at h3
      . rename_i el hd;split at h3
        . rename_i hel;have hv:=(QD h1 he).isS g1;have hrun:=run_bytes_of_string (P:=P) S.w src dst el (e.ev x).str hu hd hel;obtain⟨ay,hs1,hv1⟩:=Qv4 hS (e.ev x).str (grownCap S.w (e.ev x).str.size 0 el) el ((bytesRow (e.ev x).str (grownCap S.w (e.ev x).str.size 0 el)).size,(bytesRow (e.ev x).str (grownCap S.w (e.ev x).str.size 0 el)).size+1) (grownCap_ge _ _ _ _);refine⟨_,⟨S.ρ,S.H,_⟩,_,.inl ?_,ay,hs1,hv1,g2⟩;simp[execOp,hop,hv,hrun]
        . cases h3
      . cases h3
    . cases h2
  . cases hc
 |call f args=>cases hcall
 |pan x=>cases hcall
 |mkm T =>
  simp only[QbF]at hc;have hrun:(execOp a.eval o).run P S.w=.ok (.value (.map (some S.w.heap.size))) (S.w.alloc (.map #[] 0)):=by
   split at hc
   . simp[execOp,hop,Instr.makeMap,Result.andThen]
   . rename_i T' k n;rw[Va,Zu]at hc;obtain⟨rfl,h2⟩:=hc;split at h2
     . rename_i kt et hu;simp[execOp,hop,Instr.makeMap,run_underlying hu,asInt,asIntOf,Result.andThen,Qp0]
     . cases h2
   . cases hc
  refine⟨.map (some S.w.heap.size),S.newSp (.map #[] 0) ⟨[.mk []],T,0,false⟩,.mp S.H.length 0,.inl ?_,Qni _ _,QtU hS (m:=.mk []) (us:=[]) ⟨rfl,rfl⟩ (VRs.nil S),?_,hs⟩
  . rw[hrun]; rfl
  . exact .mp _ _ _ _ (by simp[St.newSp]; rfl) (Vb _) λ_=>by simp only[St.newSp,Qa0]
 |mup kk m' k' v' =>
  simp only[QbF]at hc;have hop2:∃ t m k v,(op=.mapUpdate t m k v\/op=.insert t m k v)/\Qx m m'=true/\Qx k k'=true/\Qx v v'=true/\Qll P t kk=true:=by
   split at hc
   . rename_i t m k v;simp only[Va]at hc;exact⟨t,m,k,v,.inl rfl,hc.1.1.1,hc.1.1.2,hc.1.2,hc.2⟩
   . rename_i t m k v;simp only[Va]at hc;exact⟨t,m,k,v,.inr rfl,hc.1.1.1,hc.1.1.2,hc.1.2,hc.2⟩
   . cases hc
  obtain⟨t,m,k,v,hopv,h1,h2,h3,h4⟩:=hop2;obtain⟨kt,et,hu,hk,hzz⟩:=QDw h4;obtain⟨g1,g2,g3,g4⟩:=hs;have k1:=(QD h1 he).ug g1;obtain⟨k2,k3⟩:=(QD h2 he).isK g2;have k4:=(QD h3 he).ug g3;split at g4
  . rename_i i ver x hmp hmo;obtain⟨g5,g7,g6⟩:=g4;rw[hmp]at k1 hmo;generalize hmv:a.eval m=mv at k1
    cases k1 with
    |mp _ _ l o' ho hv hat =>
    simp only[SV.mapOf,ho]at hmo;split at hmo
    . rename_i hcond;split at hmo
      . rename_i ks vs hcells
        cases hmo
        have hoe:o'=⟨.mk ks::vs,o'.ty,o'.ver,false⟩:=by
         obtain⟨c,ty,vv,lv⟩:=o';simp only at hcells hcond ⊢;rw[hcells,hcond.1]
        have ho2:S.H[i]? = some ⟨.mk ks::vs,o'.ty,o'.ver,false⟩:=by rw[ho]; congr 1
        obtain⟨l',es,cl,q1,q2,q3,q4⟩:=hS.map ho2;rw[hat hcond.2]at q1; cases q1
        have hρ:=hat hcond.2;subst q3;have hck:=QqP (P:=P) (w:=S.w) hk hzz k3 false;rw[<-k2]at g7;have key:∃ x',(Instr.mapUpdate t (.map (some l)) (a.eval k) (a.eval v)).run P S.w=.ok () (S.w.putObj l x')/\(∃ es2 cl2,x'=Obj.map es2 cl2) /\
         ∃ us,SpR (.mk (Q9 (a.eval k) (es.toList.map (·.key)))) x' us/\VRs S (Q6 (a.eval k) (e.ev v').ug (es.toList.map (·.key)) vs) us:=by
         rcases Qwq hk hzz hS k3 k4 g5 g7 q4 with ⟨r1,r2,r3⟩|⟨j,en,r1,r2,r3,r4,r5⟩
         . refine⟨.map (es.push ⟨a.eval k,a.eval v,cl⟩) (cl+1),?_,⟨_,_,rfl⟩,_,⟨?_,rfl⟩,?_⟩
           . have hfk:=r1;simp[Instr.mapUpdate,run_underlying hu,Go.MapKept.run_getObj_map q2,hck,hfk,Go.MapKept.run_setObj_map _ q2,Result.andThen,World.putObj]
           . rw[r2]; simp
           . simpa using r3
         . have hfk:=r1;have hj:es[j]? = some en:=by simpa using r2
           have hjl:j<es.size:=(Yc.1 hj).1;refine⟨.map (es.modify j λe=>{ e with key:=a.eval k,val:=a.eval v }) cl,?_,⟨_,_,rfl⟩,_,⟨?_,rfl⟩,?_⟩
           . have hks:=QyB (P:=P) (w:=S.w) k3;simp[Instr.mapUpdate,run_underlying hu,Go.MapKept.run_getObj_map q2,hck,hfk,hj,r3,hks,Go.MapKept.run_setObj_map _ q2,Result.andThen,World.putObj]
           . rw[r4];apply Ya;intro n;simp only[Vs,YZ,Zf];by_cases hn:j=n
             . subst hn; rw[Zr rfl,hj]; simp[r3]
             . rw[Zq hn]
           . have e1:(es.modify j λe=>{ e with key:=a.eval k,val:=a.eval v }).toList.map (·.val)=(es.toList.map (·.val)).set j (a.eval v):=by
              apply Ya;intro n;simp only[Vs,YZ,Zf,YE];by_cases hn:j=n
              . subst hn; simp[hjl]
              . rw[Zq hn,Zq hn]
             rw[e1]; exact r5
        obtain⟨x',hrun,hx',us,hsp,hvs⟩:=key;have hne:(⟨.mk (es.toList.map (·.key))::vs,o'.ty,o'.ver,false⟩:AO).cells≠[]:=by simp
        obtain⟨ay,ah⟩:=Qve hS ho2 rfl hne hρ q2 (.inr ⟨es,cl,rfl⟩) (λr h=>by cases h) (o':=⟨.mk (Q9 (a.eval k) (es.toList.map (·.key)))::Q6 (a.eval k) (e.ev v').ug (es.toList.map (·.key)) vs,o'.ty,o'.ver,false⟩) rfl (Vb _)
         (.inr ⟨_,us,_,rfl,hsp,hvs⟩)
        refine⟨undef,_,.val undef,.inr ⟨?_,rfl⟩,ay,ah,.val _,?_⟩
        . rcases hopv with rfl|rfl<;>simp[execOp,hop,hmv,hrun]
        . rw[Qcn ho]at g6;rw[<-k2]at g6;have e3:({ o' with cells:=.mk (Q9 (a.eval k) (es.toList.map (·.key)))::Q6 (a.eval k) (e.ev v').ug (es.toList.map (·.key)) vs }:AO)=⟨.mk (Q9 (a.eval k) (es.toList.map (·.key)))::Q6 (a.eval k) (e.ev v').ug (es.toList.map (·.key)) vs,o'.ty,o'.ver,false⟩:=by
           rw[hoe]
          rw[e3]at g6;exact g6
      . cases hmo
    . cases hmo
  . exact g4.elim
end
end
def Fr (ro:Option Nat):Fence:={ fn:=λ_=>True,depth:=none,alive:=false,round:=ro }
theorem QhX (ro:Option Nat) (n:Nat):(Fr ro).room n:=λ_ h=>by simp[Fr]at h
theorem Qkl {ro:Option Nat} {n:Nat}:(Fr ro).depth.isSome=true->1<=n:=λh=>by simp[Fr]at h
def _root_.Go.Code.wq (ro:Option Nat) (P:ZN) (c:Code) (Q:Exit->Act->ZO->Prop) (a:Act) (w:ZO):Prop:=c.wpIn (Fr ro) 0 P Q a w
def _root_.Go.Oper.wq (P:ZN) (o:Oper) (a:Act) (w:ZO) (next:Act->ZO->Prop) (Q:Exit->Act->ZO->Prop):Prop :=
 o.uponIn (Fr none) 0 P a next Q ((execOp a.eval o).run P w)
def Qb6 (P:ZN) (aa:Array Oper) (Q:Exit->Act->ZO->Prop) (i:Nat) (K:Act->ZO->Prop) (a:Act) (w:ZO):Prop :=
 match aa[i]? with
 |none=>K a w
 |some o=>if Region.wanted o (yielded aa a.tmps)then o.wq P a w K Q else K (a.put o.dst undef) w
def Qe1 (P:ZN) (aa:Array Oper) (Q:Exit->Act->ZO->Prop):List Nat->Act->ZO->Prop
 |[],a,w=>Q .normal a w
 |i::rest,a,w=>Qb6 P aa Q i (Qe1 P aa Q rest) a w
def QdX (P:ZN) (aa:Array Oper) (Q:Exit->Act->ZO->Prop):List Oper->Act->ZO->Prop
 |[],a,w=>Q .normal a w
 |o::rest,a,w=>if Region.wanted o (yielded aa a.tmps)then o.wq P a w (QdX P aa Q rest) Q else QdX P aa Q rest (a.put o.dst undef) w
def Qcx (P:ZN) (md:Region.Mode) (aa:Array Oper) (Q:Exit->Act->ZO->Prop):Nat->Array Bool->Act->ZO->Prop
 |0,listed,a,w=>Region.ready md aa listed=[]/\Q .normal a w
 |fuel+1,listed,a,w =>
  (Region.ready md aa listed=[]->Q .normal a w) /\
  ∀ i∈Region.ready md aa listed,Qb6 P aa Q i (Qcx P md aa Q fuel (listed.setIfInBounds i true)) a w
section
variable {P:ZN} {aa:Array Oper} {Q:Exit->Act->ZO->Prop} {md:Region.Mode}
theorem _root_.Go.Oper.wq_mono {o:Oper} {a:Act} {w:ZO} {K K':Act->ZO->Prop} {Q Q':Exit->Act->ZO->Prop} (h:∀ a w,K a w->K' a w) (hq:∀ e a w,e≠.normal->Q e a w->Q' e a w)
 (hh:o.wq P a w K Q):o.wq P a w K' Q':=by
 unfold Oper.wq at *;generalize (execOp a.eval o).run P w=r at *
 cases r with
 |ok n w' =>
  cases n<;>simp only[Oper.uponIn]at hh ⊢ <;>
   first
    |exact h _ _ hh
    |exact⟨hh.1,CallsIn.mono hh.2 (λe w'' he=>by cases e<;>first|exact h _ _ he|exact hq _ _ _ (by simp) he|exact(let ⟨a,w,hx⟩:=he; ⟨a,w,hq _ _ _ (by simp) hx⟩))⟩
    |exact⟨hh.1,RoundIn.mono hh.2 (λe w'' he=>by cases e<;>first|exact h _ _ he|exact hq _ _ _ (by simp) he|exact(let ⟨a,w,hx⟩:=he; ⟨a,w,hq _ _ _ (by simp) hx⟩))⟩
    |exact⟨hh.1,λc cs hr=>let ⟨v,w',h1,h2⟩:=hh.2 c cs hr; ⟨v,w',h _ _ h1,h2⟩⟩
 |halt x w'=>cases x<;>simp only[Oper.uponIn]at hh ⊢ <;> exact hq _ _ _ (by simp) hh
theorem Qub {i:Nat} {a:Act} {w:ZO} {K K':Act->ZO->Prop} (h:∀ a w,K a w->K' a w) (hh:Qb6 P aa Q i K a w):Qb6 P aa Q i K' a w:=by
 unfold Qb6 at *;split
 . exact h _ _ (by simpa[*]using hh)
 . rename_i o ho;simp only[ho]at hh;split
   . rename_i hw; simp only[hw,Zv]at hh; exact Oper.wq_mono h (λ_ _ _ _ h=>h) hh
   . rename_i hw; simp only[hw]at hh; exact h _ _ hh
theorem Qsk (l:List Oper):∀ k,(∀ j,l[j]? = aa[k+j]?)->Qe1 P aa Q (List.range' k l.length)=QdX P aa Q l:=by
 induction l with
 |nil=>intro k _; funext a w; simp[Qe1,QdX]
 |cons o l ih =>
  intro k h;have h0:aa[k]? = some o:=by simpa using (h 0).symm
  have ih':=ih (k+1) (λj=>by have:=h (j+1); simpa[Yi,Nat.add_comm 1 j]using this);funext a w;simp only[Vh,YT,Qe1,Qb6,h0,QdX,ih']
theorem QCL (md:Region.Mode) (aa:Array Oper) (fuel t:Nat) (listed:Array Bool) (acc:List Nat) :
 Region.linearise.go md aa fuel t listed acc=acc.reverse++Region.linearise.go md aa fuel t listed []:=linearise_go_acc md aa fuel t listed acc
theorem QBp:∀ (fuel t:Nat) (listed:Array Bool) (a:Act) (w:ZO),Qcx P md aa Q fuel listed a w ->
 Qe1 P aa Q (Region.linearise.go md aa fuel t listed []) a w:=by
 intro fuel
 induction fuel with
 |zero=>intro t listed a w h; simpa[Region.linearise.go,Qe1]using h.2
 |succ fuel ih =>
  intro t listed a w h;obtain⟨h₀,h₁⟩:=h;simp only[Region.linearise.go];change Qe1 P aa Q (match (Region.ready md aa listed)[t % (Region.ready md aa listed).length]? with
   |some i=>Region.linearise.go md aa fuel (t / (Region.ready md aa listed).length) (listed.setIfInBounds i true) [i]
   |none=>[].reverse) a w
  cases hi:(Region.ready md aa listed)[t % (Region.ready md aa listed).length]? with
  |none =>
   have hnil:Region.ready md aa listed=[]:=by
    cases hr:Region.ready md aa listed with
    |nil=>rfl
    |cons x xs =>
     rw[hr]at hi;have hlt:t % (x::xs).length<(x::xs).length:=Nat.mod_lt _ (by simp);simp at hi;simp at hlt;omega
   simpa[Qe1]using h₀ hnil
  |some i =>
   simp only[];rw[QCL,List.reverse_singleton,List.singleton_append];exact Qub (λa w=>ih _ _ a w) (h₁ i (Vw hi))
def ndB (aa:Array Oper):Bool:=aa.all λo=>match o.op with|.defer _=>false|_=>true
theorem QDV (h:ndB aa=true) {i:Nat} {o:Oper} (ho:aa[i]? = some o):∀ c,o.op≠.defer c:=by
 intro c hc;unfold ndB at h;rw[Array.all_eq_true]at h;obtain⟨hlt,rfl⟩:=Yc.1 ho;have:=h i hlt;rw[hc]at this; cases this
theorem QCe {ro:Option Nat} {o:Oper} {a:Act} {next:Act->ZO->Prop} {r:Result Next} (h:o.uponIn (Fr none) 0 P a next Q r):o.uponIn (Fr ro) 0 P a next Q r:=by
 cases r with
 |ok n w=>cases n<;>exact h
 |halt x w=>cases x<;>exact h
theorem Qot (hn:ndB aa=true) (ro:Option Nat):∀ (l:List Nat) (a:Act) (w:ZO),Qe1 P aa Q l a w->wpOpsIn (Fr ro) 0 P aa Q l a w:=by
 intro l
 induction l with
 |nil=>exact λa w h=>h
 |cons i r ih =>
  intro a w h;have h':Qb6 P aa Q i (wpOpsIn (Fr ro) 0 P aa Q r) a w:=Qub ih h;unfold Qb6 at h';simp only[wpOpsIn]
  cases ho:aa[i]? with
  |none=>rw[ho]at h'; exact h'
  |some o =>
   rw[ho]at h';simp only at h' ⊢;split
   . rename_i hw;rw[Zr hw]at h';refine⟨λ_ _=>trivial,?_⟩;rw[Oper.semAt_eq _ _ _ (QDV hn ho)];exact QCe h'
   . rename_i hw;rw[Zq hw]at h';exact⟨λ_ _=>trivial,h'⟩
variable {a:Act} {w:ZO} {ro:Option Nat}
theorem QxU {id:Nat} (hn:ndB aa=true) (h:QdX P aa Q aa.toList a w):(Code.region id aa false).wq ro P Q a w :=
 wpIn_region (Qot hn ro _ a w (by rw[YU,<- Array.length_toList,Qsk aa.toList 0 (by simp)]; exact h))
theorem Qpb {id:Nat} (hn:ndB aa=true) (hm:P.follows .mixedOrders=true)
 (h:Qcx P .any aa Q aa.size (Array.replicate aa.size false) a { w with drawn:=w.drawn+1 }):(Code.region id aa true).wq ro P Q a w :=
 wpIn_region_draw λt=>by
  simp only[Region.schedule,hm,Bool.true_or,Zv];exact Qot hn ro _ a _ (QBp aa.size t _ a _ h)
theorem QAg {o:Oper} {rest:List Oper}
 (h:∀ K:Act->ZO->Prop,(∀ a w,QdX P aa Q rest a w->K a w) ->
  if Region.wanted o (yielded aa a.tmps)then o.wq P a w K Q else K (a.put o.dst undef) w):QdX P aa Q (o::rest) a w:=h _ λ_ _ h=>h
theorem wq_mono {c:Code} {Q':Exit->Act->ZO->Prop} (h:c.wq ro P Q a w) (hq:∀ e a w,Q e a w->Q' e a w):c.wq ro P Q' a w:=wpIn_mono h hq
end
section
variable {P:ZN} {b:Frame} {a:Act} {k:List Item} {cs:List Frame} {w:ZO} {F:Fence} {n:Nat} {Q:Exit->Act->ZO->Prop}
theorem Qg9 {c:Code}:step P (lone (b.atR a (.code (.scope c)::k)) cs w)=.next (lone (b.atR a (.code c::.inScope c::k)) cs w) :=
 step_lone_go (by simp[stepG,stepG.exec,Frame.atR])
theorem Qy4 {c:Code}:step P (lone (b.atR a (.inScope c::k)) cs w)=.next (lone (b.atR a k) cs w) :=
 step_lone_go (by simp[stepG,stepG.exec,Frame.atR])
theorem QwK {c:Code} (h:c.wpIn F n P (λe a w=>(match e with|.goto _=>False|_=>True)/\Q e a w) a w):(Code.scope c).wpIn F n P Q a w:=by
 intro b k cs hro hb hr;have h0:(lone (b.atR a (.code (.scope c)::k)) cs w).fenced P F:=fenced_calm hb hr rfl;obtain⟨e,a₁,w₁,⟨hg,hq⟩,harr⟩:=h b (.inScope c::k) cs hro hb hr;have hx:∀ id,exitTo id (.inScope c::k)=exitTo id k:=λid=>by simp[exitTo]
 cases e with
 |normal=>exact⟨.normal,a₁,w₁,hq,.head h0 Qg9 (StepsIn.trans harr (.one (fenced_calm hb hr rfl) Qy4))⟩
 |exit id=>exact⟨.exit id,a₁,w₁,hq,λk' hk=>.head h0 Qg9 (harr.1 k' (by rw[hx]; exact hk)),
  λhr' hk=>let ⟨k₁,h1,h2⟩:=harr.2 hr' (by rw[hx]; exact hk); ⟨k₁,h1,.head h0 Qg9 h2⟩⟩
 |goto l=>exact hg.elim
 |ret=>exact⟨_,a₁,w₁,hq,.of_steps (.one h0 Qg9) harr⟩
 |panic ch=>exact⟨_,a₁,w₁,hq,.of_steps (.one h0 Qg9) harr⟩
 |outgrown=>exact⟨_,a₁,w₁,hq,.of_steps (.one h0 Qg9) harr⟩
end
structure DB where
 n0:Nat
 base:List Deferred
 ro:Option Nat
def QcK (D:Nat):Deferred:={ target:=.collected D,args := #[] }
structure DB.Ok (d:DB) (w:ZO) (ds:List Deferred):Prop where
 le:d.n0<=w.heap.size
 ms:∃ ms:List Nat,ds=ms.map QcK++d.base/\ms.Nodup/\∀ D∈ms,d.n0<=D/\w.heap[D]? = some (.deferred (some []))
 ro:∀ l,d.ro=some l->∃ r,w.heap[l]? = some (.loop r)
theorem DB.Ok.drew {d:DB} {w:ZO} {ds:List Deferred} (h:d.Ok w ds):d.Ok w.drew ds:=⟨h.le,h.ms,h.ro⟩
section
variable [QO] [QK] [Qv]
inductive J where
 |p (i:I)
 |e (i:E)
 |q (f:Od) (args:List Od)
structure Ins where
 d:Option Nat
 g:Option (Nat×Bool)
 j:J
inductive XE where
 |normal
 |exit (id:Nat)
 |goto (l:Nat)
 |ret
 |panic (x:SV)
abbrev ZH:=XE->Env->ZI->Prop
inductive Out where
 |ret (r:SV)
 |pan (x:SV)
def Ok (P:ZN) (f:ZP) (args:ZJ) (H:ZI) (out:Out) (H':ZI):Prop :=
 (∀ (vs:Array Value) (w:ZO),(callFunc f vs).run P w=.ok (.enter f vs) w) /\
 ∀ (S:St) (vs:ZK),S.H=H->Sim S->VRs S args vs ->
  Calls P f vs.toArray S.w λe w'=>∃ (v:Value) (ρ':Nat->Option Nat),Ext S.H.length S ⟨ρ',H',w'⟩/\Sim ⟨ρ',H',w'⟩ /\
   match out with
   |.ret r=>e=.returned v/\VR ⟨ρ',H',w'⟩ r v
   |.pan x=>e=.panicked [{ v:=v,recovered:=false }]/\VR ⟨ρ',H',w'⟩ x v
def OkP (P:ZN) (f:ZP) (args:ZJ) (H:ZI) (Pt:Out->ZI->Prop):Prop :=
 (∀ (vs:Array Value) (w:ZO),(callFunc f vs).run P w=.ok (.enter f vs) w) /\
 ∀ (S:St) (vs:ZK),S.H=H->Sim S->VRs S args vs ->
  Calls P f vs.toArray S.w λe w'=>∃ (out:Out) (H':ZI) (v:Value) (ρ':Nat->Option Nat),Pt out H'/\Ext S.H.length S ⟨ρ',H',w'⟩/\Sim ⟨ρ',H',w'⟩ /\
   match out with
   |.ret r=>e=.returned v/\VR ⟨ρ',H',w'⟩ r v
   |.pan x=>e=.panicked [{ v:=v,recovered:=false }]/\VR ⟨ρ',H',w'⟩ x v
theorem Ok.toP {P:ZN} {f:ZP} {args:ZJ} {H:ZI} {out:Out} {H':ZI} (h:Ok P f args H out H'):OkP P f args H λo h=>o=out/\h=H':=by
 refine⟨h.1,λS vs h1 h2 h3=>(h.2 S vs h1 h2 h3).mono ?_⟩;rintro e w ⟨v,ρ',h4,h5,h6⟩;exact⟨out,H',v,ρ',⟨rfl,rfl⟩,h4,h5,h6⟩
theorem OkP.mono {P:ZN} {f:ZP} {args:ZJ} {H:ZI} {Pt Pt':Out->ZI->Prop} (h:OkP P f args H Pt) (hp:∀ o h,Pt o h->Pt' o h):OkP P f args H Pt':=by
 refine⟨h.1,λS vs h1 h2 h3=>(h.2 S vs h1 h2 h3).mono ?_⟩;rintro e w ⟨out,H',v,ρ',h0,h4⟩;exact⟨out,H',v,ρ',hp _ _ h0,h4⟩
def YlP (P:ZN) (i:Nat) (args:ZJ) (H:ZI) (Pt:Out->ZI->Prop):Prop :=
 (∃ o,H[i]? = some o/\o.ver=0)/\∀ (S:St) (vs:ZK) (l:Nat),S.H=H->Sim S->VRs S args vs->S.ρ i=some l ->
  ∃ r,S.w.heap[l]? = some (Obj.loop r)/\vs.length=r.params.size /\
   RoundIn (Fr none) 0 P l r.fn ((r.params.zip vs.toArray).foldl (λtmps (t,a)=>tmps.setIfInBounds t a) r.tmps) r.assign r.body S.w λe w' =>
    ∃ (out:Out) (H':ZI) (v:Value) (ρ':Nat->Option Nat),Pt out H'/\Ext S.H.length S ⟨ρ',H',w'⟩/\Sim ⟨ρ',H',w'⟩ /\
     match out with
     |.ret r=>e=.returned v/\VR ⟨ρ',H',w'⟩ r v
     |.pan x=>e=.panicked [{ v:=v,recovered:=false }]/\VR ⟨ρ',H',w'⟩ x v
def OkC (P:ZN) (f:SV) (args:ZJ) (H:ZI) (out:Out) (H':ZI):Prop :=
 f.vd=true/\match f.ug with
 |.fn (.func k) first cap=>Ok P k (first++args++cap) H out H'
 |_=>False
def QeY (P:ZN) (f:SV) (args:ZJ) (H:ZI) (Pt:Out->ZI->Prop):Prop :=
 f.vd=true/\match f.ug with
 |.fn (.func k) first cap=>OkP P k (first++args++cap) H Pt
 |.yl i=>YlP P i args H Pt
 |_=>False
theorem OkC.toP {P:ZN} {f:SV} {args:ZJ} {H:ZI} {out:Out} {H':ZI} (h:OkC P f args H out H'):QeY P f args H λo h=>o=out/\h=H':=by
 refine⟨h.1,?_⟩;have h2:=h.2;split at h2
 . rename_i hf;rw[hf];exact h2.toP
 . exact h2.elim
def SV.on (want:Bool):SV->Bool
 |.val (.bool b)=>b==want
 |.gd b x=>b&&x.on want
 |_=>false
def SV.bish:SV->Bool
 |.val (.bool _)=>true
 |.gd _ x=>x.bish
 |_=>false
def xj (P:ZN) (o:Ins) (U:Env) (H:ZI) (K:ZH):Prop :=
 match o.j with
 |.p i=>(pv i U.ev H).1/\K .normal (U.put o.d (pv i U.ev H).2) H
 |.e (.call f args)=>∃ Pt:Out->ZI->Prop,QeY P (U.ev f) (args.map U.ev) H Pt/\∀ out H',Pt out H' ->
  match out with
  |.ret r=>K .normal (U.put o.d r) H'
  |.pan x=>K (.panic x) U H'
 |.e (.pan x)=>(U.ev x).vd=true/\match (U.ev x).ug with
  |.ifc t y=>K (.panic (.ifc t y)) U H
  |_=>False
 |.e i=>xe i U.ev H λv H'=>K .normal (U.put o.d v) H'
 |.q f args=>∃ r,OkC P (U.ev f) (args.map U.ev) H (.ret r) H/\K .normal (U.put o.d r) H
def xo (P:ZN) (o:Ins) (U:Env) (H:ZI) (K:ZH):Prop :=
 match o.g with
 |none=>xj P o U H K
 |some (s,want) =>
  (U.get s).bish=true /\
  match o.j with
  |.p i=>((U.get s).on want=true->(pv i U.ev H).1)/\K .normal (U.put o.d (.gd ((U.get s).on want) (pv i U.ev H).2)) H
  |.q f args=>∃ r,((U.get s).on want=true->OkC P (U.ev f) (args.map U.ev) H (.ret r) H)/\K .normal (U.put o.d (.gd ((U.get s).on want) r)) H
  |.e _=>((U.get s).on want=true->xj P o U H K)/\((U.get s).on want=false->K .normal (U.put o.d (.val undef)) H)
def QbP (P:ZN):List Ins->Env->ZI->(ZH)->Prop
 |[],U,H,K=>K .normal U H
 |o::r,U,H,K=>xo P o U H λx U H =>
  match x with
  |.normal=>QbP P r U H K
  |x=>K x U H
def ER (S:St):XE->Exit->Prop
 |.normal,.normal=>True
 |.exit i,.exit j=>i=j
 |.goto i,.goto j=>i=j
 |.ret,.ret=>True
 |.panic x,.panic ch=>∃ v,ch=[{ v:=v,recovered:=false }]/\VR S x v
 |_,_=>False
def Qar (S:St) (N:Nat) (d:DB) (K:ZH):Exit->Act->ZO->Prop:=λe a w =>
 ∃ x U ρ H,ER ⟨ρ,H,w⟩ x e/\Ext S.H.length S ⟨ρ,H,w⟩/\Sim ⟨ρ,H,w⟩/\QH ⟨ρ,H,w⟩ U a.tmps/\a.tmps.size=N/\d.Ok w a.defers/\K x U H
theorem DB.Ok.ext {d:DB} {S S':St} {n:Nat} {ds:List Deferred} (h:d.Ok S.w ds) (hS:Sim S) (he:Ext n S S'):d.Ok S'.w ds:=by
 refine⟨Vf h.le he.size,?_,λl hl=>let ⟨r,h1⟩:=h.ro l hl; he.loops l r h1⟩
 obtain⟨ms,h1,h2,h3⟩:=h.ms;refine⟨ms,h1,h2,λD hD=>⟨(h3 D hD).1,?_⟩⟩;have h4:=(h3 D hD).2;refine((he.imm D (Qdr h4) ?_).1).trans h4;rintro⟨i,o,ho,hl,hρ⟩;rcases hS.own ho hl hρ with ⟨c,h5⟩|⟨r,h5⟩|⟨es,cl,h5⟩<;>(rw[h4]at h5; cases h5)
def QtO (sz:Nat) (s:SV):Bool:=match s with|.agg l=>l.length==sz&&l.all SV.isCell|_=>false
def Qoy (P:ZN) (op:Op) (T:ZM) (sz len:Nat) (z:ZJ) (parts:List (Nat×SV)):Bool :=
 let cells:=Qba (List.replicate len z).flatten (parts.map λp=>(p.1*sz,p.2))
 QbF P op (.bsl T sz len z (parts.map λp=>(p.1,Od.c p.2)))&&cells.all SV.isCell&&SV.underL 0 cells&&cells.length==len*sz&&parts.all λp=>decide (p.1*sz+sz<=len*sz)&&QtO sz p.2
def QnQ (P:ZN) (op:Op) (j:J):Bool :=
 match j with
 |.p (.kro T sz len z parts)=>Qoy P op T sz len z parts
 |.p i=>Qaf P op i
 |.e i=>QbF P op i
 |.q f args=>QbF P op (.call f args)
def Qd2 (P:ZN) (N:Nat) (aa:Array Oper) (o:Oper) (o':Ins):Bool :=
 o.dst==o'.d&&(match o.dst with|some d=>decide (d<N)|none=>true) &&
 (match o.guard,o'.g with
  |none,none=>true
  |some (j,want),some (s,want')=>want==want'&&((aa[j]?).bind (·.dst)==some s)
  |_,_=>false)&&QnQ P o.op o'.j
section
variable {P:ZN} {S:St} {U:Env} {a:Act} {N:Nat} {d:DB}
def Qjb:Value->Option Bool
 |.bool b=>some b
 |_=>none
theorem Qz7 {x:SV} {v:Value} {want:Bool} (h:VR S x v) (hb:x.bish=true):(Qjb v==some want)=x.on want:=by
 induction h with
 |val v=>cases v<;>simp_all [SV.bish,SV.on,Qjb]
 |gd b x v h0 h ih =>
  simp only[SV.bish]at hb;simp only[SV.on]
  cases b with
  |true=>simpa using ih rfl hb
  |false=>rw[h0 rfl]; simp[undef,Qjb]
 |_=>simp[SV.bish]at hb
theorem Qw5 {aa:Array Oper} {j s:Nat} (hj:(aa[j]?).bind (·.dst)=some s) (tmps:Array Value) :
 yielded aa tmps j=Qjb (tmps.getD s undef):=by
 unfold yielded;rw[hj];simp only[Option.bind_some,VV]
 cases h:tmps[s]? with
 |none=>simp[undef,Qjb]
 |some v=>simp only[V8]; cases v<;>rfl
def Qgs (P:ZN) (aa:Array Oper) (o:Oper) (a:Act) (w:ZO) (next:Act->ZO->Prop) (Q:Exit->Act->ZO->Prop):Prop :=
 if Region.wanted o (yielded aa a.tmps)then o.wq P a w next Q else next (a.put o.dst undef) w
theorem QqR (hS:Sim S) (he:QH S U a.tmps) {o:Oper} {f:Od} {args:List Od} (hc:QbF P o.op (.call f args)=true) {Pt:Out->ZI->Prop}
   (hok:QeY P (U.ev f) (args.map U.ev) S.H Pt) {next:Act->ZO->Prop} {Q:Exit->Act->ZO->Prop}
   (h1:∀ out H' v ρ' w',Pt out H'->Ext S.H.length S ⟨ρ',H',w'⟩->Sim ⟨ρ',H',w'⟩ ->
     (match out with
      |.ret r=>VR ⟨ρ',H',w'⟩ r v->next (a.put o.dst v) w'
      |.pan x=>VR ⟨ρ',H',w'⟩ x v->Q (.panic [{ v:=v,recovered:=false }]) a w')):o.wq P a S.w next Q:=by
 generalize hop:o.op=op at hc;simp only[QbF]at hc;split at hc
 . rename_i f' as ts;simp only[Va]at hc;have hf:=QD hc.1 he;have has:=Qkw hc.2 he;obtain⟨hvd,hok⟩:=hok;have hf':=hf.ug hvd;split at hok
   . rename_i k first cap hug
     rw[hug]at hf';obtain⟨us,vs,hv,hus,hvs⟩:=hf'.fn_inv;obtain⟨hent,hcall⟩:=hok;have hcalls:=hcall S (us++as.toList.map a.eval++vs) rfl hS ((hus.append has).append hvs);have hrun:(execOp a.eval o).run P S.w=.ok (.enter k (us++as.toList.map a.eval++vs).toArray) S.w:=by
       have e1:us.toArray++as.map a.eval++vs.toArray=(us++as.toList.map a.eval++vs).toArray:=by apply Yy; simp
       simp only[execOp,hop,resolve,hv,Deferred.ofValue,Vo,VJ,VA,invoke];rw[e1,hent]
     unfold Oper.wq;rw[hrun,Oper.uponIn_enter];refine⟨Qkl,callsIn_wide.2 (hcalls.mono ?_)⟩;rintro e w' ⟨out,H',v,ρ',hpt,am,aj,hout⟩
     cases out with
     |ret r=>obtain⟨rfl,hvr⟩:=hout; exact h1 _ H' v ρ' w' hpt am aj hvr
     |pan x=>obtain⟨rfl,hvr⟩:=hout; exact h1 _ H' v ρ' w' hpt am aj hvr
   . rename_i i hug;rw[hug]at hf';obtain⟨⟨o1,ho1,hv1⟩,hok⟩:=hok;generalize hfv:a.eval f'=fv at hf'
     cases hf' with
     |yl _ l o2 ho2 hρ =>
       rw[ho1]at ho2; cases ho2
       obtain⟨r,hr,hlen,hround⟩:=hok S (as.toList.map a.eval) l rfl hS has (hρ hv1);have hrun:(execOp a.eval o).run P S.w=.ok (.round l r.fn ((r.params.zip (as.toList.map a.eval).toArray).foldl (λtmps (t,a)=>tmps.setIfInBounds t a) r.tmps) r.assign r.body) S.w:=by
         have hy:=run_yield (P:=P) (args:=(as.toList.map a.eval).toArray) hr (by simpa using hlen);have e1:as.map a.eval=(as.toList.map a.eval).toArray:=by apply Yy; simp
         simp only[execOp,hop,resolve,hfv,Deferred.ofValue,Vo,VJ,VA,invoke];simpa[e1]using hy
       unfold Oper.wq;rw[hrun,Oper.uponIn_round];refine⟨Qkl,hround.mono ?_⟩;rintro e w' ⟨out,H',v,ρ',hpt,am,aj,hout⟩
       cases out with
       |ret r=>obtain⟨rfl,hvr⟩:=hout; exact h1 _ H' v ρ' w' hpt am aj hvr
       |pan x=>obtain⟨rfl,hvr⟩:=hout; exact h1 _ H' v ρ' w' hpt am aj hvr
   . exact hok.elim
 . cases hc
theorem Qpm (hS:Sim S) (he:QH S U a.tmps) {o:Oper} {f:Od} {args:List Od} (hc:QbF P o.op (.call f args)=true) {out:Out} {H':ZI}
   (hok:OkC P (U.ev f) (args.map U.ev) S.H out H') {next:Act->ZO->Prop} {Q:Exit->Act->ZO->Prop}
   (h1:∀ v ρ' w',Ext S.H.length S ⟨ρ',H',w'⟩->Sim ⟨ρ',H',w'⟩ ->
     (match out with
      |.ret r=>VR ⟨ρ',H',w'⟩ r v->next (a.put o.dst v) w'
      |.pan x=>VR ⟨ρ',H',w'⟩ x v->Q (.panic [{ v:=v,recovered:=false }]) a w')):o.wq P a S.w next Q :=
 QqR hS he hc hok.toP λo h v ρ' w' hp he hs=>by
   obtain⟨rfl,rfl⟩:=hp
   cases o<;>exact h1 v ρ' w' he hs
theorem Qjy (a:Act) (d:Option Nat) (v:Value):(a.put d v).tmps.size=a.tmps.size:=by cases d<;>simp[Act.put]
theorem Qjk (a:Act) (d:Option Nat) (v:Value):(a.put d v).defers=a.defers:=by cases d<;>rfl
theorem thaw {S:St} (hS:Sim S) {H0:ZI} {cells:ZJ} {T:ZM} {len sz:Nat} {v:Value} (hH:S.H=H0++[⟨cells,T,0,true⟩]) (Z:∀ (i:Nat) (o:AO),H0[i]? = some o->∀ s∈o.cells,s.under H0.length=true)
 (hu:SV.underL H0.length cells=true) (hlen:cells.length=len*sz) (hv:VR S (.own H0.length 0 len sz 0) v) :
 Ext H0.length S ⟨S.ρ,H0,S.w⟩/\Sim ⟨S.ρ,H0,S.w⟩/\VR ⟨S.ρ,H0,S.w⟩ (.slc cells len) v:=by
 have hle:H0.length<=S.H.length:=by rw[hH]; simp
 have ht:S.H.take H0.length=H0:=by rw[hH]; simp
 have h1:=QiS (S:=S) hle;have h2:=Qw1 hS hle (λi o hi ho=>Z i o (by rw[hH,Vc hi]at ho; exact ho));rw[ht]at h1 h2;refine⟨h1,h2,?_⟩;have hat:S.H[H0.length]? = some ⟨cells,T,0,true⟩:=by rw[hH]; simp
 have hl:=hS.live _ _ hat rfl;have zero:len=0->cells=[]:=λh=>VS (by rw[hlen,h,Yn]);have none_:∀ (ad:ZL) (cap:Nat),len=0->(ad=none->cap=0)->VR ⟨S.ρ,H0,S.w⟩ (.slc cells len) (.slice ad len cap):=by
  intro ad cap h0 hc;rw[zero h0,h0]
  cases ad with
  |none=>rw[hc rfl]; exact .nilslc
  |some ad=>exact .slc [] 0 ad cap [] (V5 _) rfl ⟨λj u hj=>by simp at hj,λhne=>absurd rfl hne,Qhs⟩ λj s u hj=>by simp at hj
 cases hv with
 |own _ _ _ _ _ ad cap o ho hvv hc hz h =>
  rw[hat]at ho; cases ho
  have h3:=h rfl;unfold St.OwnAt at h3
  cases hρ:S.ρ H0.length with
  |none =>
   rw[hρ]at h3;exact none_ ad cap h3.1 λ_=>h3.2
  |some b =>
   rw[hρ]at h3 hl;obtain⟨us,rest,hh,hvr⟩:=hl;rcases h3 with h3|⟨rfl,_⟩
   . exact none_ ad cap (by omega) λ_=>h3
   . have hvr':=hvr.extB h1 hu;refine .slc cells len _ cap us hc hvr'.1 ⟨?_,λ_ hr => ?_,λ_ _=>.inl ⟨_,_,hh⟩⟩ hvr'.2
     . intro j u hj;have hadd:(⟨b,0,none⟩:Addr).add j=⟨b,j,none⟩:=by unfold Addr.add; split<;>simp_all
       rw[hadd];unfold World.cell?;simp only[hh,Yv,Vz,Zx];simp[Vc (Qk hj),hj]
     . obtain⟨i,o,ho,hl',hρ'⟩:=hr;have hi:i<H0.length:=Qk ho;have ho':S.H[i]? = some o:=by rw[hH,Vc hi]; exact ho
       have:=hS.inj i H0.length o _ b ho' hat hl' (AO.own_live rfl) hρ' hρ;omega
theorem QtM (hS:Sim S) (he:QH S U a.tmps) {o:Oper} {T:ZM} {sz len:Nat} {z:ZJ} {parts:List (Nat×SV)} (hc:Qoy P o.op T sz len z parts=true) :
 ∃ v ρ' w',(execOp a.eval o).run P S.w=.ok (.value v) w'/\Ext S.H.length S ⟨ρ',S.H,w'⟩/\Sim ⟨ρ',S.H,w'⟩/\VR ⟨ρ',S.H,w'⟩ (.slc (Qba (List.replicate len z).flatten (parts.map λp=>(p.1*sz,p.2))) len) v:=by
 unfold Qoy at hc;simp only[Va,Zu,Vi,Zs]at hc;obtain⟨⟨⟨⟨h1,h2⟩,h3⟩,h4⟩,h5⟩:=hc;have hm:(parts.map λp=>(p.1,Od.c p.2)).map (λp=>(p.1*sz,U.ev p.2))=parts.map λp=>(p.1*sz,p.2):=by
  rw[YJ]; rfl
 obtain⟨nv,S',sv,hrun,am,aj,hvr,rfl,hH⟩:=Qr4 (o:=o) hS he h1 rfl (K:=λsv H'=>sv=.own S.H.length 0 len sz 0/\H'=S.H++[⟨Qba (List.replicate len z).flatten (parts.map λp=>(p.1*sz,p.2)),T,0,true⟩]) (by
  refine⟨?_,?_,?_⟩
  . intro p hp;obtain⟨q,hq,rfl⟩:=VC.1 hp;obtain⟨k1,k2⟩:=h5 q hq;refine⟨?_,k1⟩;unfold QtO at k2;split at k2
    . rename_i l hl;rw[Va,Zu]at k2;show QaW sz (U.ev (.c q.2));simp only[Env.ev,hl];exact⟨k2.1,rfl⟩
    . cases k2
  . rw[hm]; exact h2
  . rw[hm]; exact⟨rfl,rfl⟩)
 obtain⟨k1,k2,k3⟩:=thaw aj hH (λi o ho=>λs hs=>(hS.bel i o ho s hs).1) (SV.underL_mono (V5 _) _ h3) h4 hvr;refine⟨nv,S'.ρ,S'.w,?_,am.trans (k1.mono (Vb _)),k2,k3⟩;rcases hrun with hrun|⟨hrun,h0⟩
 . exact hrun
 . subst h0; cases hvr
theorem Qpk (hS:Sim S) (he:QH S U a.tmps) (hN:a.tmps.size=N) (hd:d.Ok S.w a.defers) {o:Oper} {o':Ins} (hdst:o.dst=o'.d) (hlt:∀ t,o.dst=some t->t<N) (hc:QnQ P o.op o'.j=true)
 {K:ZH} (h:xj P o' U S.H K) {next:Act->ZO->Prop} {Q:Exit->Act->ZO->Prop}
 (hnext:∀ a' w',Qar S N d K .normal a' w'->next a' w') (hQ:∀ ch a' w',Qar S N d K (.panic ch) a' w'->Q (.panic ch) a' w'):o.wq P a S.w next Q:=by
 have ax:∀ t,o.dst=some t->t<a.tmps.size:=by rw[hN]; exact hlt
 have fin:∀ (v:Value) (s:SV) (ρ':Nat->Option Nat) (H':ZI) (w':ZO),Ext S.H.length S ⟨ρ',H',w'⟩->Sim ⟨ρ',H',w'⟩->VR ⟨ρ',H',w'⟩ s v->K .normal (U.put o'.d s) H'->next (a.put o.dst v) w':=by
  intro v s ρ' H' w' h1 h2 h3 h4;refine hnext _ _ ⟨.normal,U.put o'.d s,ρ',H',trivial,h1,h2,?_,by rw[Qjy,hN],by rw[Qjk]; exact hd.ext hS h1,h4⟩;rw[<-hdst];exact(he.ext h1).put ax h3
 unfold xj at h
 cases hj:o'.j with
 |p i =>
  rw[hj]at h hc;obtain⟨h1,h2⟩:=h;have key:∃ v ρ' w',(execOp a.eval o).run P S.w=.ok (.value v) w'/\Ext S.H.length S ⟨ρ',S.H,w'⟩/\Sim ⟨ρ',S.H,w'⟩/\VR ⟨ρ',S.H,w'⟩ (pv i U.ev S.H).2 v:=by
   by_cases hk:∃ T sz len z parts,i=.kro T sz len z parts
   . obtain⟨T,sz,len,z,parts,rfl⟩:=hk;exact QtM hS he hc
   . have hc':Qaf P o.op i=true:=by
      cases i<;>first|exact hc|exact absurd ⟨_,_,_,_,_,rfl⟩ hk
     obtain⟨v,hrun,hv⟩:=Qvg hS he hc' h1;exact⟨v,S.ρ,S.w,hrun,Ext.refl _ S,hS,hv⟩
  obtain⟨v,ρ',w',hrun,am,aj,hv⟩:=key;unfold Oper.wq;rw[hrun,Oper.uponIn_value];exact fin v _ ρ' S.H w' am aj hv h2
 |q f args =>
  rw[hj]at h hc;obtain⟨r,h1,h2⟩:=h;refine Qpm hS he hc h1 λv ρ' w' am aj hv => ?_;exact fin v r ρ' S.H w' am aj hv h2
 |e i =>
  rw[hj]at h hc;by_cases hcall:i.isCall=true
  . cases i<;>simp[E.isCall]at hcall
    case call f args =>
     obtain⟨Pt,h1,h2⟩:=h;refine QqR hS he hc h1 λout H' v ρ' w' hpt am aj => ?_;have h2:=h2 out H' hpt
     cases out with
     |ret r=>exact λhv=>fin v r ρ' H' w' am aj hv h2
     |pan x =>
      intro hv;exact hQ _ _ _ ⟨.panic x,U,ρ',H',⟨v,rfl,hv⟩,am,aj,he.ext am,hN,hd.ext hS am,h2⟩
    case pan x =>
     obtain⟨hvd,h2⟩:=h;generalize hop:o.op=op at hc;simp only[QnQ,QbF]at hc;split at hc
     . rename_i x0;have hx':=(QD hc he).ug hvd;split at h2
       . rename_i t y hug;rw[hug]at hx';generalize hv:a.eval x0=v at hx'
         cases hx' with
         |ifc _ _ v hy =>
          unfold Oper.wq;have hrun:(execOp a.eval o).run P S.w=.halt (.panic (.iface t v)) S.w:=by
           simp only[execOp,hop,hv,Instr.panic]; rfl
          rw[hrun,Oper.uponIn_panic];exact hQ _ _ _ ⟨.panic (.ifc t y),U,S.ρ,S.H,⟨_,rfl,.ifc _ _ _ hy⟩,Ext.refl _ S,hS,he,hN,hd,h2⟩
       . exact h2.elim
     . cases hc
  . have hcall':i.isCall=false:=by simpa using hcall
    have h':xe i U.ev S.H λv H'=>K .normal (U.put o'.d v) H':=by
     cases i<;>first|exact h|simp[E.isCall]at hcall'
    obtain⟨nv,S',sv,hrun,am,aj,hvr,hK⟩:=Qr4 (o:=o) hS he hc hcall' h';unfold Oper.wq;rcases hrun with hrun|⟨hrun,rfl⟩
    . rw[hrun,Oper.uponIn_value]; exact fin nv sv S'.ρ S'.H S'.w am aj hvr hK
    . rw[hrun,Oper.uponIn_skip]; exact fin _ sv S'.ρ S'.H S'.w am aj hvr hK
theorem QjA (hS:Sim S) (he:QH S U a.tmps) (hN:a.tmps.size=N) (hd:d.Ok S.w a.defers) {aa:Array Oper} {o:Oper} {o':Ins} (hc:Qd2 P N aa o o'=true)
 {K:ZH} (h:xo P o' U S.H K) {next:Act->ZO->Prop} {Q:Exit->Act->ZO->Prop}
 (hnext:∀ a' w',Qar S N d K .normal a' w'->next a' w') (hQ:∀ ch a' w',Qar S N d K (.panic ch) a' w'->Q (.panic ch) a' w'):Qgs P aa o a S.w next Q:=by
 unfold Qd2 at hc;rw[Va,Va,Va,Zu]at hc;obtain⟨⟨⟨hdst,hlt0⟩,hg⟩,hj⟩:=hc;have hlt:∀ t,o.dst=some t->t<N:=by intro t ht; rw[ht]at hlt0; simpa using hlt0
 have ax:∀ t,o.dst=some t->t<a.tmps.size:=by rw[hN]; exact hlt
 unfold Qgs;unfold xo at h
 cases hog:o.guard with
 |none =>
  rw[hog]at hg
  cases hog':o'.g with
  |some x=>rw[hog']at hg; cases hg
  |none =>
   rw[hog']at h;rw[Zr (by simp[Region.wanted,hog])];exact Qpk hS he hN hd hdst hlt hj h hnext hQ
 |some jw =>
  obtain⟨j,want⟩:=jw;rw[hog]at hg
  cases hog':o'.g with
  |none=>rw[hog']at hg; cases hg
  |some sw =>
   obtain⟨s,want'⟩:=sw;rw[hog']at hg h;simp only[Va,Zu]at hg;obtain⟨rfl,hs⟩:=hg;simp only at h;obtain⟨hb,h⟩:=h;have hw:Region.wanted o (yielded aa a.tmps)=(U.get s).on want:=by
    unfold Region.wanted;rw[hog];simp only;rw[Qw5 hs];exact Qz7 (he.get s) hb
   rw[hw];have skip:∀ (sv:SV),(U.get s).on want=false->VR S sv undef->K .normal (U.put o'.d sv) S.H->next (a.put o.dst undef) S.w:=by
    intro sv hoff hv hK;refine hnext _ _ ⟨.normal,U.put o'.d sv,S.ρ,S.H,trivial,Ext.refl _ S,hS,?_,by rw[Qjy,hN],by rw[Qjk]; exact hd,hK⟩;rw[<-hdst];exact he.put ax hv
   cases hoj:o'.j with
   |p i =>
    rw[hoj]at h hj;obtain⟨h1,h2⟩:=h
    cases hon:(U.get s).on want with
    |true =>
     rw[Zr rfl];have key:∃ v ρ' w',(execOp a.eval o).run P S.w=.ok (.value v) w'/\Ext S.H.length S ⟨ρ',S.H,w'⟩/\Sim ⟨ρ',S.H,w'⟩/\VR ⟨ρ',S.H,w'⟩ (pv i U.ev S.H).2 v:=by
      by_cases hk:∃ T sz len z parts,i=.kro T sz len z parts
      . obtain⟨T,sz,len,z,parts,rfl⟩:=hk;exact QtM hS he hj
      . have hc':Qaf P o.op i=true:=by
         cases i<;>first|exact hj|exact absurd ⟨_,_,_,_,_,rfl⟩ hk
        obtain⟨v,hrun,hv⟩:=Qvg hS he hc' (h1 hon);exact⟨v,S.ρ,S.w,hrun,Ext.refl _ S,hS,hv⟩
     obtain⟨v,ρ',w',hrun,am,aj,hv⟩:=key;unfold Oper.wq;rw[hrun,Oper.uponIn_value];refine hnext _ _ ⟨.normal,_,ρ',S.H,trivial,am,aj,?_,by rw[Qjy,hN],by rw[Qjk]; exact hd.ext hS am,h2⟩;rw[<-hdst];exact(he.ext am).put ax (.gd _ _ _ (λe=>by rw[hon]at e; cases e) λ_=>hv)
    |false =>
     rw[Zq (by simp)];exact skip _ hon (.gd _ _ _ (λ_=>rfl) λe=>by rw[hon]at e; cases e) h2
   |q f args =>
    rw[hoj]at h hj;obtain⟨r,h1,h2⟩:=h
    cases hon:(U.get s).on want with
    |true =>
     rw[Zr rfl];refine Qpm hS he hj (h1 hon) λv ρ' w' am aj hv => ?_;refine hnext _ _ ⟨.normal,_,ρ',S.H,trivial,am,aj,?_,by rw[Qjy,hN],by rw[Qjk]; exact hd.ext hS am,h2⟩;rw[<-hdst];exact(he.ext am).put ax (.gd _ _ _ (λe=>by rw[hon]at e; cases e) λ_=>hv)
    |false =>
     rw[Zq (by simp)];exact skip _ hon (.gd _ _ _ (λ_=>rfl) λe=>by rw[hon]at e; cases e) h2
   |e i =>
    rw[hoj]at h;simp only at h
    cases hon:(U.get s).on want with
    |true =>
     rw[Zr rfl];exact Qpk hS he hN hd hdst hlt hj (h.1 hon) hnext hQ
    |false =>
     rw[Zq (by simp)];exact skip _ hon (.val _) (h.2 hon)
theorem Qar.trans {S S':St} {K:ZH} {e:Exit} {a:Act} {w:ZO} (he:Ext S.H.length S S') (h:Qar S' N d K e a w):Qar S N d K e a w:=by
 obtain⟨x,U,ρ,H,h1,h2,h3⟩:=h;exact⟨x,U,ρ,H,h1,he.trans (h2.mono (he.len (Vb _))),h3⟩
def chkL (P:ZN) (N:Nat) (aa:Array Oper):List Oper->List Ins->Bool
 |[],[]=>true
 |o::r,o'::r'=>Qd2 P N aa o o'&&chkL P N aa r r'
 |_,_=>false
theorem Qm4 {aa:Array Oper} {K:ZH}:∀ (l:List Oper) (l':List Ins) {S:St} {U:Env} {a:Act},Sim S->QH S U a.tmps->a.tmps.size=N->d.Ok S.w a.defers ->
 chkL P N aa l l'=true->QbP P l' U S.H K->QdX P aa (Qar S N d K) l a S.w
 |[],[],S,U,a,hS,he,hN,hd,_,h=>⟨.normal,U,S.ρ,S.H,trivial,Ext.refl _ S,hS,he,hN,hd,h⟩
 |[],_::_,S,U,a,hS,he,hN,hd,hc,h=>by simp[chkL]at hc
 |_::_,[],S,U,a,hS,he,hN,hd,hc,h=>by simp[chkL]at hc
 |o::r,o'::r',S,U,a,hS,he,hN,hd,hc,h=>by
  simp only[chkL,Va]at hc;refine QAg λK' hK' => ?_;have hstep:=QjA (Q:=Qar S N d K) hS he hN hd hc.1 (by simpa only[QbP]using h) (next:=K') (by
   rintro a' w' ⟨x,aw,ρ',H',hx,am,aj,henv,hN',hd',hk⟩;apply hK'
   cases x<;>simp only[ER]at hx
   simp only at hk;have ih:=Qm4 r r' (S:=⟨ρ',H',w'⟩) aj henv hN' hd' hc.2 hk;have mono:∀ (l:List Oper) (a:Act) (w:ZO),QdX P aa (Qar ⟨ρ',H',w'⟩ N d K) l a w->QdX P aa (Qar S N d K) l a w:=by
    intro l
    induction l with
    |nil=>intro a w h; exact Qar.trans am h
    |cons o l ih =>
     intro a w h;simp only[QdX]at h ⊢;split
     . rename_i hw;rw[Zr hw]at h;exact Oper.wq_mono ih (λ_ _ _ _ h=>Qar.trans am h) h
     . rename_i hw;rw[Zq hw]at h;exact ih _ _ h
   exact mono r a' w' ih) (by
   rintro ch a' w' ⟨x,aw,ρ',H',hx,hrest⟩
   cases x<;>simp only[ER]at hx
   exact⟨.panic _,aw,ρ',H',hx,hrest⟩)
  exact hstep
end
end
section
variable [QO] [QK] [Qv]
section
variable {P:ZN}
def QfB (aa:Array Oper):Nat->Nat->Nat->Bool
 |0,_,_=>false
 |n+1,i,k=>match aa[i]? with
  |none=>false
  |some o=>(o.after.toList.any λe=>Region.binds .any e&&e.on==k)||(o.after.toList.any λe=>Region.binds .any e&&QfB aa n e.on k)
theorem QqZ {aa:Array Oper} {L:Nat->Prop} (Z:∀ j o,L j->aa[j]? = some o->∀ e∈o.after,Region.binds .any e=true->L e.on) :
 ∀ (n i k:Nat) (o:Oper),aa[i]? = some o->(∀ e∈o.after,Region.binds .any e=true->L e.on)->QfB aa n i k=true->L k
 |0,_,_,_,_,_,h=>by cases h
 |n+1,i,k,o,ho,hw,h=>by
  simp only[QfB,ho,V6,Yz,Va,Zu]at h;rcases h with ⟨e,he,hb,hk⟩|⟨e,he,hb,hr⟩
  . rw[<-hk]; exact hw e (by simpa using he) hb
  . have hL:=hw e (by simpa using he) hb
    cases n with
    |zero=>cases hr
    |succ n =>
     cases ho2:aa[e.on]? with
     |none=>simp[QfB,ho2]at hr
     |some o2=>exact QqZ Z (n+1) e.on k o2 ho2 (Z e.on o2 hL ho2) hr
structure Qry (aa:Array Oper) (n0:Nat):Prop where
 le:n0<=aa.size
 edge:∀ i o,aa[i]? = some o->∀ e∈o.after,Region.binds .any e=true->e.on<i
 guard:∀ i o,i<n0->aa[i]? = some o->∀ g w,o.guard=some (g,w)->g<n0
 all:∀ i o,n0<=i->aa[i]? = some o->∀ k,k<i->QfB aa aa.size i k=true
structure QnC (aa:Array Oper) (n0:Nat):Prop where
 le:n0<=aa.size
 edge:∀ i o,aa[i]? = some o->∀ e∈o.after,Region.binds .any e=true->e.on<i
 guard:∀ i o,i<n0->aa[i]? = some o->∀ g w,o.guard=some (g,w)->g<n0
 all:∀ i o,n0<=i->aa[i]? = some o->∀ k,k<n0->QfB aa aa.size i k=true
theorem Qry.wt {aa:Array Oper} {n0:Nat} (h:Qry aa n0):QnC aa n0:=⟨h.le,h.edge,h.guard,λi o hi ho k hk=>h.all i o hi ho k (by omega)⟩
def Qkr (aa:Array Oper) (n0:Nat):Bool :=
 decide (n0<=aa.size)&&(List.range aa.size).all λi=>match aa[i]? with
  |none=>false
  |some o=>(o.after.toList.all λe => !Region.binds .any e||decide (e.on<i)) &&
   (if i<n0 then(match o.guard with|none=>true|some (g,_)=>decide (g<n0))else(List.range n0).all λk=>QfB aa aa.size i k)
theorem Qzk {aa:Array Oper} {n0:Nat} (h:Qkr aa n0=true):QnC aa n0:=by
 unfold Qkr at h;rw[Va,Vi]at h;obtain⟨h1,h2⟩:=h;have key:∀ i o,aa[i]? = some o->(o.after.toList.all λe => !Region.binds .any e||decide (e.on<i))=true /\
  (if i<n0 then(match o.guard with|none=>true|some (g,_)=>decide (g<n0))else(List.range n0).all λk=>QfB aa aa.size i k)=true:=by
  intro i o ho;have:=h2 i (by rw[V3]; exact(Yc.1 ho).1);rw[ho]at this;simpa only[Va]using this
 refine⟨Zy h1,?_,?_,?_⟩
 . intro i o ho e he hb;have:=(key i o ho).1;rw[Vi]at this;have:=this e (by simpa using he);rw[hb]at this;simpa using this
 . intro i o hi ho g w hg;have:=(key i o ho).2;rw[Zr hi,hg]at this;simpa using this
 . intro i o hi ho k hk;have:=(key i o ho).2;rw[Zq (by omega),Vi]at this;exact this k (by rw[V3]; exact hk)
theorem Qih {listed:Array Bool} {i:Nat} (h:i<listed.size):listed.getD i true=listed.getD i false:=by
 simp[VV,V2 h]
theorem Qob {aa:Array Oper} (hedge:∀ i o,aa[i]? = some o->∀ e∈o.after,Region.binds .any e=true->e.on<i) {listed:Array Bool} (hsz:listed.size=aa.size) (hr:Region.ready .any aa listed=[]) :
 ∀ i,i<aa.size->listed.getD i false=true:=by
 intro i
 induction i using Nat.strongRecOn with
 |_ i ih =>
  intro hi
  cases h:listed.getD i false with
  |true=>rfl
  |false =>
   have:i∈Region.ready .any aa listed:=by
    rw[mem_ready];refine⟨by rw[Qih (by omega)]; exact h,aa[i],V2 hi,λe he hb => ?_⟩;have:=hedge i aa[i] (V2 hi) e he hb;exact ih e.on this (by omega)
   rw[hr]at this; simp at this
theorem Qh9 {listed:Array Bool} {i k:Nat} (hi:i<listed.size):(listed.setIfInBounds i true).getD k false=if k=i then true else listed.getD k false:=by
 simp only[VV,Ym];by_cases h:i=k
 . subst h; simp[hi]
 . rw[Zq h,Zq (λe=>h e.symm)]
theorem QvX {aa:Array Oper} {n0:Nat} (ht:QnC aa n0) {Q1 Q:Exit->Act->ZO->Prop} (hq:∀ e a w,e≠.normal->Q1 e a w->Q e a w)
 (hn:∀ (fuel:Nat) (listed:Array Bool) (a:Act) (w:ZO),aa.size-n0<=fuel->listed.size=aa.size->(∀ i,i<n0->listed.getD i false=true)->(∀ i,n0<=i->listed.getD i false=false)->Q1 .normal a w->Qcx P .any aa Q fuel listed a w) :
 ∀ (fuel:Nat) (l1 listed:Array Bool) (a:Act) (w:ZO),l1.size=n0->listed.size=aa.size->(∀ i,i<n0->l1.getD i false=listed.getD i false)->(∀ i,n0<=i->listed.getD i false=false)->(∀ j o,listed.getD j false=true->aa[j]? = some o->∀ e∈o.after,Region.binds .any e=true->listed.getD e.on false=true) ->
  Qcx P .any (aa.extract 0 n0) Q1 fuel l1 a w->Qcx P .any aa Q (fuel+(aa.size-n0)) listed a w:=by
 have hx:∀ i,(aa.extract 0 n0)[i]? = if i<n0 then aa[i]? else none:=by
  intro i;rw[Array.getElem?_extract];have:=ht.le;by_cases h:i<n0
  . rw[Zr h,Zr (by omega)]; simp
  . rw[Zq h,Zq (by omega)]
 have hxs:(aa.extract 0 n0).size=n0:=by have:=ht.le; simp; omega
 have hedge1:∀ i o,(aa.extract 0 n0)[i]? = some o->∀ e∈o.after,Region.binds .any e=true->e.on<i:=by
  intro i o ho;rw[hx]at ho;split at ho
  . exact ht.edge i o ho
  . cases ho
 intro fuel
 induction fuel with
 |zero =>
  intro l1 listed a w hs1 hs hl hu Z h;obtain⟨hr,hqn⟩:=h;have hall:=Qob hedge1 (by omega) hr;exact hn _ listed a w (by omega) hs (λi hi=>by rw[<-hl i hi]; exact hall i (by omega)) hu hqn
 |succ fuel ih =>
  intro l1 listed a w hs1 hs hl hu Z h;obtain⟨h1,h2⟩:=h;by_cases hr:Region.ready .any (aa.extract 0 n0) l1=[]
  . have hall:=Qob hedge1 (by omega) hr;exact hn _ listed a w (by omega) hs (λi hi=>by rw[<-hl i hi]; exact hall i (by omega)) hu (h1 hr)
  . have hle:=ht.le;have hsome:∃ i,i<n0/\listed.getD i false=false:=by
     obtain⟨i,hi⟩:=List.exists_mem_of_ne_nil _ hr;rw[mem_ready]at hi;obtain⟨g1,o,ho,_⟩:=hi;rw[hx]at ho;by_cases hin:i<n0
     . rw[Qih (by omega)]at g1;exact⟨i,hin,by rw[<-hl i hin]; exact g1⟩
     . rw[Zq hin]at ho; cases ho
    have hfu:fuel+1+(aa.size-n0)=(fuel+(aa.size-n0))+1:=by omega
    rw[hfu];refine⟨λhr2 => ?_,λi hi => ?_⟩
    . obtain⟨i,hin,hi⟩:=hsome;have:=Qob ht.edge hs hr2 i (by omega);rw[hi]at this; cases this
    . rw[mem_ready]at hi;obtain⟨g1,o,ho,hdeps⟩:=hi;have hin:i<n0:=by
       by_cases hin:i<n0
       . exact hin
       . obtain⟨k,hk,hku⟩:=hsome;have:=QqZ (L:=λt=>listed.getD t false=true) Z aa.size i k o ho (λe he hb=>hdeps e he hb) (ht.all i o (by omega) ho k hk);rw[hku]at this; cases this
      have hi1:i∈Region.ready .any (aa.extract 0 n0) l1:=by
       rw[mem_ready];rw[Qih (by omega)]at g1;refine⟨by rw[Qih (by omega),hl i hin]; exact g1,o,by rw[hx,Zr hin]; exact ho,λe he hb => ?_⟩;rw[hl e.on (by have:=ht.edge i o ho e he hb; omega)];exact hdeps e he hb
      have h3:=h2 i hi1;have hnext:∀ a' w',Qcx P .any (aa.extract 0 n0) Q1 fuel (l1.setIfInBounds i true) a' w'->Qcx P .any aa Q (fuel+(aa.size-n0)) (listed.setIfInBounds i true) a' w':=by
       intro a' w' h4;refine ih _ _ a' w' (by simpa using hs1) (by simpa using hs) (λk hk => ?_) (λk hk => ?_) (λm om hm hom e he hb => ?_) h4
       . rw[Qh9 (by omega),Qh9 (by omega),hl k hk]
       . rw[Qh9 (by omega),Zq (by omega)]; exact hu k hk
       . rw[Qh9 (by omega)]at hm ⊢;by_cases hei:e.on=i
         . rw[Zr hei]
         . rw[Zq hei];by_cases hmi:m=i
           . subst hmi;rw[ho]at hom; cases hom
             exact hdeps e he hb
           . rw[Zq hmi]at hm;exact Z m om hm hom e he hb
      unfold Qb6 at h3 ⊢;rw[ho];rw[hx,Zr hin,ho]at h3;simp only at h3 ⊢;have hw:Region.wanted o (yielded (aa.extract 0 n0) a.tmps)=Region.wanted o (yielded aa a.tmps):=by
       unfold Region.wanted
       cases hg:o.guard with
       |none=>rfl
       |some gw =>
        obtain⟨g,wnt⟩:=gw;have hgn:=ht.guard i o hin ho g wnt hg;simp only[yielded,hx,Zr hgn]
      rw[hw]at h3;split at h3
      . rename_i hwt;rw[Zr hwt];exact Oper.wq_mono hnext hq h3
      . rename_i hwt;rw[Zq hwt];exact hnext _ _ h3
theorem Qwi {aa:Array Oper} {Q:Exit->Act->ZO->Prop} {i:Nat} {o:Oper} {a:Act} {w:ZO} {next:Act->ZO->Prop} (ho:aa[i]? = some o) (h:Qgs P aa o a w next Q):Qb6 P aa Q i next a w:=by
 unfold Qb6;rw[ho];simp only;unfold Qgs at h;split
 . rename_i hw; rw[Zr hw]at h; exact h
 . rename_i hw; rw[Zq hw]at h; exact h
end
end
section
variable [QO] [QK] [Qv]
def closed (H:ZI):Prop:=∀ (i:Nat) (o:AO),H[i]? = some o->∀ s∈o.cells,s.under H.length=true
theorem Sim.closed {S:St} (h:Sim S):closed S.H:=λi o ho s hs=>(h.bel i o ho s hs).1
theorem VRs.map {S S':St} {l:ZJ} {us:ZK} (h:VRs S l us) {f:SV->SV} (hf:∀ s v,VR S s v->VR S' (f s) v):VRs S' (l.map f) us:=by
 refine⟨by simp[h.1],?_⟩;intro j s u h1 h2;rw[Vs]at h1
 cases hj:l[j]? with
 |none=>rw[hj]at h1; cases h1
 |some s0=>rw[hj]at h1; cases h1; exact hf s0 u (h.2 j s0 u hj h2)
def Qbf (ks:List Nat) (k:Nat):Option Nat :=
 match ks with
 |[]=>none
 |x::r=>if x=k then some 0 else(Qbf r k).map (· + 1)
theorem QuT {ks:List Nat} {k p:Nat} (h:Qbf ks k=some p):ks[p]? = some k:=by
 induction ks generalizing p with
 |nil=>simp[Qbf]at h
 |cons x r ih =>
  unfold Qbf at h;split at h
  . rename_i hx; cases h; simp[hx]
  . cases hr:Qbf r k with
    |none=>rw[hr]at h; cases h
    |some q=>rw[hr]at h; cases h; simpa using ih hr
theorem Qva {ks:List Nat} {k p:Nat} (h:Qbf ks k=none):ks[p]? ≠ some k:=by
 induction ks generalizing p with
 |nil=>simp
 |cons x r ih =>
  unfold Qbf at h;split at h
  . cases h
  . rename_i hx
    cases hr:Qbf r k with
    |none=>cases p with
     |zero=>simpa using hx
     |succ p=>simpa using ih hr
    |some q=>rw[hr]at h; cases h
def SV.fz (n:Nat) (ks:List Nat) (L:ZI):Nat->SV->SV
 |0,_=>.any
 |d+1,s =>
  if s.under n=true then s else
  match s with
  |.any=>.any
  |.val v=>.val v
  |.gd _ _=>.any
  |.slc cells len=>.slc (cells.map (SV.fz n ks L d)) len
  |.own i off len sz ver =>
   match L[i-n]? with
   |some o =>
    match Qbf ks (i-n)with
    |some p=>if o.ver=ver then .own (n+p) off len sz 0 else .any
    |none=>if o.live=true/\o.ver=ver/\off+len*sz<=o.cells.length then .slc (((o.cells.drop off).take (len*sz)).map (SV.fz n ks L d)) len else .any
   |none=>.any
  |.ptr (.own i off len sz ver) k =>
   match L[i-n]? with
   |some o =>
    match Qbf ks (i-n)with
    |some p=>if o.ver=ver then .ptr (.own (n+p) off len sz 0) k else .any
    |none=>if o.live=true/\o.ver=ver/\off<o.cells.length then .ptr (.slc ((o.cells.drop off).map (SV.fz n ks L d)) 0) k else .any
   |none=>.any
  |.ptr (.slc cells len) k=>.ptr (.slc (cells.map (SV.fz n ks L d)) len) k
  |.ptr _ _=>.any
  |.agg l=>.agg (l.map (SV.fz n ks L d))
  |.tup l=>.tup (l.map (SV.fz n ks L d))
  |.fn f x y=>.fn f (x.map (SV.fz n ks L d)) (y.map (SV.fz n ks L d))
  |.ifc t x=>.ifc t (SV.fz n ks L d x)
  |.yl _=>.any
  |.lp _ _ _=>.any
  |.mk _=>.any
  |.mp i ver =>
   match L[i-n]? with
   |some o =>
    match Qbf ks (i-n)with
    |some _=>.any
    |none=>if o.live=false/\o.ver=ver then(match o.cells with|.mk kk::vs=>.mpf kk (vs.map (SV.fz n ks L d))|_=>.any)else .any
   |none=>.any
  |.mpf kk vs=>.mpf kk (vs.map (SV.fz n ks L d))
def Qel (n:Nat) (ks:List Nat) (L:ZI) (d:Nat):ZI :=
 ks.map λk=>match L[k]? with
  |some o=>{ cells:=o.cells.map (SV.fz n ks L d),ty:=o.ty,ver:=0,live:=true }
  |none=>{ cells:=[],ty:=0,ver:=0,live:=false }
def QcM (n:Nat) (ks:List Nat) (L:ZI) (d:Nat):List Nat->Prop
 |[]=>True
 |k::r=>(match L[k]? with
  |some o=>o.live=true/\QF (o.cells.map (SV.fz n ks L d))
  |none=>False)/\k∉r/\QcM n ks L d r
section
variable {S:St} {H0 L:ZI} {ks:List Nat} {d0:Nat}
def QcQ (S:St) (n:Nat) (ks:List Nat):Nat->Option Nat:=λi=>if i<n then S.ρ i else match ks[i-n]? with
 |some k=>S.ρ (n+k)
 |none=>none
def Qa1 (S:St) (H0 L:ZI) (ks:List Nat) (d:Nat):St:=⟨QcQ S H0.length ks,H0++Qel H0.length ks L d,S.w⟩
theorem Qnr {n d:Nat}:∀ {l:List Nat},QcM n ks L d l->∀ {p k:Nat},l[p]? = some k->∃ o,L[k]? = some o/\o.live=true/\QF (o.cells.map (SV.fz n ks L d))
 |[],_,p,k,h=>by simp at h
 |x::r,h,p,k,hp=>by
  cases p with
  |zero =>
   simp at hp; subst hp;have:=h.1
   cases hx:L[x]? with
   |none=>rw[hx]at this; exact this.elim
   |some o=>rw[hx]at this; exact⟨o,rfl,this⟩
  |succ p=>simp at hp; exact Qnr h.2.2 hp
theorem Qod {n d:Nat}:∀ {l:List Nat},QcM n ks L d l->∀ {p q k:Nat},l[p]? = some k->l[q]? = some k->p=q
 |[],_,p,q,k,h,_=>by simp at h
 |x::r,h,p,q,k,hp,hq=>by
  cases p with
  |zero =>
   cases q with
   |zero=>rfl
   |succ q=>simp at hp hq; subst hp; exact absurd (Vw hq) h.2.1
  |succ p =>
   cases q with
   |zero=>simp at hp hq; subst hq; exact absurd (Vw hp) h.2.1
   |succ q=>simp at hp hq; rw[Qod h.2.2 hp hq]
theorem QgA (hk:QcM H0.length ks L d0 ks) {i:Nat} {o:AO} (h:(Qa1 S H0 L ks d0).H[i]? = some o) :
 (i<H0.length/\H0[i]? = some o/\QcQ S H0.length ks i=S.ρ i) \/
 (∃ p k o',i=H0.length+p/\ks[p]? = some k/\L[k]? = some o'/\o'.live=true/\QF o.cells /\
  o={ cells:=o'.cells.map (SV.fz H0.length ks L d0),ty:=o'.ty,ver:=0,live:=true }/\QcQ S H0.length ks i=S.ρ (H0.length+k)):=by
 simp only[Qa1]at h;by_cases hi:i<H0.length
 . rw[Vc hi]at h;exact .inl ⟨hi,h,by simp[QcQ,hi]⟩
 . rw[Vk (by omega)]at h;unfold Qel at h;rw[Vs]at h
   cases hp:ks[i-H0.length]? with
   |none=>rw[hp]at h; cases h
   |some k =>
    rw[hp]at h;obtain⟨o',h1,h2,h3⟩:=Qnr hk hp;simp only[VK,h1]at h
    cases h
    exact .inr ⟨i-H0.length,k,o',by omega,hp,h1,h2,h3,rfl,by simp[QcQ,hi,hp]⟩
theorem QiQ (hS:S.H=H0++L) (hk:QcM H0.length ks L d0 ks) {b:Nat} (h:(Qa1 S H0 L ks d0).rw b) :
 ∃ (i:Nat) (o:AO),S.H[i]? = some o/\o.own=true/\S.ρ i=some b/\(i<H0.length\/∃ p:Nat,ks[p]? = some (i-H0.length)):=by
 obtain⟨i,o,ho,hl,hρ⟩:=h;change QcQ S H0.length ks i=some b at hρ;rcases QgA hk ho with ⟨h1,h2,h3⟩|⟨p,k,o',rfl,h1,h2,h3,_,h4,h5⟩
 . exact⟨i,o,by rw[hS,Vc h1]; exact h2,hl,by rw[<-h3]; exact hρ,.inl h1⟩
 . refine⟨H0.length+k,o',by rw[hS,Vk (by omega)]; simpa using h2,AO.own_live h3,by rw[<-h5]; exact hρ,.inr ⟨p,by simpa using h1⟩⟩
theorem Qfv (hS:S.H=H0++L) (hk:QcM H0.length ks L d0 ks):Ext H0.length S (Qa1 S H0 L ks d0) where
 obj:=λi o hi h=>⟨o,by
  show(H0++_)[i]? = _;rw[Vc hi]; rw[hS,Vc hi]at h; exact h,Vb _,λ_=>by show QcQ S H0.length ks i=_; simp[QcQ,hi]⟩
 imm:=λk _ hnr=>⟨rfl,λhr=>hnr (by obtain⟨i,o,h1,h2,h3,_⟩:=QiQ hS hk hr; exact⟨i,o,h1,h2,h3⟩)⟩
 size:=Vb _
 shape:=λ_ _ _ h=>h
 loops:=λ_ r h=>⟨r,h⟩
 os:=rfl
 tape:=rfl
 output:=rfl
theorem Qsu (hS:S.H=H0++L) (hk:QcM H0.length ks L d0 ks) {a:Addr} {us:ZK} (h:S.Imm a us):(Qa1 S H0 L ks d0).Imm a us :=
 ⟨h.1,λhne hr=>h.2.1 hne (by obtain⟨i,o,h1,h2,h3,_⟩:=QiQ hS hk hr; exact⟨i,o,h1,h2,h3⟩),h.2.2⟩
theorem Qyw {n i p off len sz cap:Nat} {a:ZL} (h:S.OwnAt i off len sz a cap) (hρ:(Qa1 S H0 L ks d0).ρ p=S.ρ i) (_hn:n=0:=by rfl):(Qa1 S H0 L ks d0).OwnAt p off len sz a cap:=by
 unfold St.OwnAt at *;rw[hρ]; exact h
theorem Qo6 (aj:Sim S) (hS:S.H=H0++L) (hk:QcM H0.length ks L d0 ks):∀ (d:Nat),d<=d0->∀ (s:SV) (v:Value),VR S s v->VR (Qa1 S H0 L ks d0) (s.fz H0.length ks L d) v:=by
 intro d
 induction d with
 |zero=>intro _ s v _; exact .any v
 |succ d ih =>
  intro hd s v h;have ih:=ih (by omega);unfold SV.fz;by_cases hu:s.under H0.length=true
  . rw[Zr hu]; exact h.extB (Qfv hS hk) (.inr hu)
  rw[Zq hu];have row:∀ (i off:Nat) (o:AO) (b:Nat),¬ i<H0.length->S.H[i]? = some o->o.live=true->S.ρ i=some b->Qbf ks (i-H0.length)=none->∀ m,off+m<=o.cells.length ->
   ∃ us,(Qa1 S H0 L ks d0).Imm ⟨b,off,none⟩ us/\VRs (Qa1 S H0 L ks d0) (((o.cells.drop off).take m).map (SV.fz H0.length ks L d)) us:=by
   intro i off o b hi ho hl hρ hp m hm;have h1:=aj.live i o ho hl;rw[hρ]at h1;obtain⟨us,rest,hh,hvr⟩:=h1;have hlen:us.length=o.cells.length:=hvr.1;refine⟨(us.drop off).take m,⟨?_,?_,λ_ _=>.inl ⟨_,_,hh⟩⟩,((hvr.drop off).take m).map ih⟩
   . intro j u hj;rw[VQ]at hj;split at hj
     . rw[VU]at hj;have hadd:(⟨b,off,none⟩:Addr).add j=⟨b,off+j,none⟩:=by unfold Addr.add; split<;>simp_all
       rw[hadd];show S.w.cell? _=_;unfold World.cell?;simp only[hh,Yv,Vz,Zx];simp[Vc (Qk hj),hj]
     . cases hj
   . intro hne hr;obtain⟨i',o',ho',hl',hρ',hi'⟩:=QiQ hS hk hr;have e1:=aj.inj i i' o o' b ho ho' (AO.own_live hl) hl' hρ hρ';subst e1;rcases hi' with hi'|⟨p,hi'⟩
     . exact hi hi'
     . exact Qva hp hi'
  have hL:∀ {i:Nat} {o:AO},¬ i<H0.length->L[i-H0.length]? = some o->S.H[i]? = some o:=by
   intro i o hi ho; rw[hS,Vk (by omega)]; exact ho
  have hρk:∀ {i p:Nat},¬ i<H0.length->Qbf ks (i-H0.length)=some p->(Qa1 S H0 L ks d0).ρ (H0.length+p)=S.ρ i:=by
   intro i p hi hp;have:=QuT hp;show QcQ S H0.length ks (H0.length+p)=_;simp only[QcQ];rw[Zq (by omega)];have e:H0.length+p-H0.length=p:=by omega
   rw[e,this];show S.ρ _=_;congr 1; omega
  have hok:∀ {i p:Nat},¬ i<H0.length->Qbf ks (i-H0.length)=some p->∃ o',(Qa1 S H0 L ks d0).H[H0.length+p]? = some o'/\o'.ver=0:=by
   intro i p hi hp;have:=QuT hp;obtain⟨o,h1,h2,h3⟩:=Qnr hk this;refine⟨{ cells:=o.cells.map (SV.fz H0.length ks L d0),ty:=o.ty,ver:=0,live:=true },?_,rfl⟩
   . show(H0++Qel H0.length ks L d0)[H0.length+p]? = some { cells:=o.cells.map (SV.fz H0.length ks L d0),ty:=o.ty,ver:=0,live:=true };rw[Vk (by omega)];unfold Qel;rw[Vs];have e:H0.length+p-H0.length=p:=by omega
     rw[e,this];simp[h1]
  cases h with
  |any v=>exact .any v
  |val v=>exact .val v
  |gd b x v h0 h=>exact .any v
  |nilslc=>simpa using VR.nilslc
  |slc cells len a cap us hc hl hi h =>
   have hm:=VRs.map (S:=S) (l:=cells) (us:=us) ⟨hl,h⟩ ih;exact .slc _ len a cap us hc hm.1 (Qsu hS hk hi) hm.2
  |own i off len sz ver a cap o ho hv hc hz hat =>
   have hi:¬ i<H0.length:=by simpa[SV.under]using hu
   simp only
   cases hLi:L[i-H0.length]? with
   |none=>exact .any _
   |some o2 =>
    have e2:=hL hi hLi;rw[ho]at e2
    cases e2
    simp only
    cases hp:Qbf ks (i-H0.length)with
    |some p =>
     simp only;split
     . rename_i hver;obtain⟨o',h1,h2⟩:=hok hi hp;exact .own _ off len sz 0 a cap o' h1 (by omega) hc hz λ_=>Qyw (hat hver) (hρk hi hp)
     . exact .any _
    |none =>
     simp only;split
     . rename_i hcond;obtain⟨hl,hver,hlen⟩:=hcond;have h2:=hat hver;unfold St.OwnAt at h2
       cases hρ:S.ρ i with
       |none =>
        rw[hρ]at h2;obtain⟨rfl,rfl⟩:=h2
        cases a with
        |none=>simpa using VR.nilslc
        |some a =>
         simp only[Yn,Yx,VM];exact .slc [] 0 a 0 [] hc rfl ⟨λj u hj=>by simp at hj,λhne=>absurd rfl hne,Qhs⟩ λj s u hj=>by simp at hj
       |some b =>
        rw[hρ]at h2;obtain⟨us,hi1,hi2⟩:=row i off o b hi ho hl hρ hp (len*sz) hlen
        cases a with
        |none =>
         have h0:=hz rfl;subst h0;have hc0:cap=0:=by
          rcases h2 with h2|⟨h2,_⟩
          . exact h2
          . cases h2
         subst hc0;simpa using VR.nilslc
        |some a =>
         rcases h2 with h2|⟨h2,_⟩
         . have:len=0:=by omega
           subst this;simp only[Yn,Yx,VM];exact .slc [] 0 a cap [] hc rfl ⟨λj u hj=>by simp at hj,λhne=>absurd rfl hne,Qhs⟩ λj s u hj=>by simp at hj
         . cases h2
           exact .slc _ len _ cap us hc hi2.1 hi1 hi2.2
     . exact .any _
  |ptrI cells len k a us hl hi h =>
   have hm:=VRs.map (S:=S) (l:=cells) (us:=us) ⟨hl,h⟩ ih;exact .ptrI _ len k a us hm.1 (Qsu hS hk hi) hm.2
  |ptrO i off len sz ver k a o ho hv hat =>
   have hi:¬ i<H0.length:=by simpa[SV.under]using hu
   simp only
   cases hLi:L[i-H0.length]? with
   |none=>exact .any _
   |some o2 =>
    have e2:=hL hi hLi;rw[ho]at e2
    cases e2
    simp only
    cases hp:Qbf ks (i-H0.length)with
    |some p =>
     simp only;split
     . rename_i hver;obtain⟨o',h1,h2⟩:=hok hi hp;refine .ptrO _ off len sz 0 k a o' h1 (by omega) λ_ => ?_;obtain⟨b,hb1,hb2⟩:=hat hver;exact⟨b,(hρk hi hp).trans hb1,hb2⟩
     . exact .any _
    |none =>
     simp only;split
     . rename_i hcond;obtain⟨hl,hver,hlen⟩:=hcond;obtain⟨b,hρ,rfl⟩:=hat hver;obtain⟨us,hi1,hi2⟩:=row i off o b hi ho hl hρ hp (o.cells.length-off) (by omega);have e1:(o.cells.drop off).take (o.cells.length-off)=o.cells.drop off:=by rw[VD]; simp
       rw[e1]at hi2;have e2:(⟨b,off+k,none⟩:Addr)=(⟨b,off,none⟩:Addr).add k:=by unfold Addr.add; split<;>simp_all
       rw[e2];exact .ptrI _ 0 k _ us hi2.1 hi1 hi2.2
     . exact .any _
  |agg l us hl h=>exact VR.of_agg (VRs.map (S:=S) (l:=l) (us:=us) ⟨hl,h⟩ ih)
  |tup l us hl h=>exact VR.of_tup (VRs.map (S:=S) (l:=l) (us:=us) ⟨hl,h⟩ ih)
  |fn f x y us vs hl h hl' h'=>exact VR.fn_of (VRs.map (S:=S) (l:=x) (us:=us) ⟨hl,h⟩ ih) (VRs.map (S:=S) (l:=y) (us:=vs) ⟨hl',h'⟩ ih)
  |ifc t x v h=>exact .ifc t _ v (ih x v h)
  |yl i l o ho h=>exact .any _
  |mp i ver l o ho hv h =>
   have hi:¬ i<H0.length:=by simpa[SV.under]using hu
   simp only
   cases hLi:L[i-H0.length]? with
   |none=>exact .any _
   |some o2 =>
    have e2:=hL hi hLi;rw[ho]at e2
    cases e2
    simp only
    cases hp:Qbf ks (i-H0.length)with
    |some p=>exact .any _
    |none =>
     simp only;split
     . rename_i hcond;obtain⟨hl,hver⟩:=hcond;split
       . rename_i kk vs hcells;obtain⟨l',x,m,us,U,k1,k2,k3,k4,k5⟩:=aj.lp i o ho hl (by rw[hcells]; simp);rw[hcells]at k2;obtain⟨rfl,rfl⟩:=List.cons.inj k2;have hρ:=h hver;rw[hρ]at k1; cases k1
         rcases k4.kind with ⟨r,rfl⟩|⟨es,cl,rfl⟩
         . exact k4.elim
         . obtain⟨rfl,rfl⟩:=k4;have hm:=k5.map ih;refine .mpf _ l es cl _ k3 (λhr => ?_) rfl hm.1 hm.2;obtain⟨i',o',ho',hl',hρ',hi'⟩:=QiQ hS hk hr;have e1:=aj.inj i i' o o' l ho ho' (by simp[AO.own,hcells]) hl' hρ hρ';subst e1;rcases hi' with hi'|⟨p,hi'⟩
           . exact hi hi'
           . exact Qva hp hi'
       . exact .any _
     . exact .any _
  |mpf vs l es cl us hb hn hu2 hl h =>
   have hm:=VRs.map (S:=S) (l:=vs) (us:=us) ⟨hl,h⟩ ih;exact .mpf _ l es cl us hb (λhr=>hn (by obtain⟨i',o',ho',hl',hρ',_⟩:=QiQ hS hk hr; exact⟨i',o',ho',hl',hρ'⟩)) hu2 hm.1 hm.2
theorem QxW (aj:Sim S) (hS:S.H=H0++L) (Z:closed H0) (hk:QcM H0.length ks L d0 ks):Sim (Qa1 S H0 L ks d0):=by
 have hlive:∀ (i:Nat) (o:AO),(Qa1 S H0 L ks d0).H[i]? = some o->o.live=true ->
  match (Qa1 S H0 L ks d0).ρ i with
  |none=>o.cells=[]
  |some b=>∃ us rest,S.w.heap[b]? = some (.cells (us++rest).toArray o.ty (0,0))/\VRs (Qa1 S H0 L ks d0) o.cells us:=by
  intro i o ho hl;show match QcQ S H0.length ks i with
   |none=>o.cells=[]
   |some b=>_
  rcases QgA hk ho with ⟨h1,h2,h3⟩|⟨p,k,o',rfl,h1,h2,h3,_,rfl,h5⟩
  . rw[h3];have h4:=aj.live i o (by rw[hS,Vc h1]; exact h2) hl
    cases hρ:S.ρ i with
    |none=>rw[hρ]at h4; exact h4
    |some b =>
     rw[hρ]at h4;obtain⟨us,rest,h5,h6⟩:=h4;exact⟨us,rest,h5,h6.extB (Qfv hS hk) ((SV.underL_iff _ _).2 (Z i o h2))⟩
  . rw[h5];have h4:=aj.live (H0.length+k) o' (by rw[hS,Vk (by omega)]; simpa using h2) h3
    cases hρ:S.ρ (H0.length+k)with
    |none=>rw[hρ]at h4; simp only; rw[h4]; rfl
    |some b =>
     rw[hρ]at h4;obtain⟨us,rest,h6,h7⟩:=h4;exact⟨us,rest,h6,h7.map (Qo6 aj hS hk d0 (Vb _))⟩
 refine⟨hlive,?_,?_,?_,aj.gl.ext (Qfv hS hk),aj.kf.ext (Qfv hS hk)⟩
 . intro i o ho s hs;rcases QgA hk ho with ⟨h1,h2,h3⟩|⟨p,k,o',rfl,h1,h2,h3,h6,rfl,h5⟩
   . refine⟨?_,(aj.bel i o (by rw[hS,Vc h1]; exact h2) s hs).2⟩;exact SV.under_mono (by show _<=(H0++_).length; simp) s (Z i o h2 s hs)
   . refine⟨?_,λ_=>h6 s hs⟩;have h8:=hlive _ _ ho rfl;split at h8
     . rw[h8]at hs; cases hs
     . obtain⟨us,rest,h9,h10⟩:=h8;obtain⟨j,hj⟩:=VB hs;obtain⟨u,_,h11⟩:=h10.get hj;exact h11.under
 . intro i j o o' b hi hj hl hl' hρ hρ';change QcQ S H0.length ks i=some b at hρ;change QcQ S H0.length ks j=some b at hρ';rcases QgA hk hi with ⟨h1,h2,h3⟩|⟨p,k,o1,rfl,h1,h2,h3,_,rfl,h5⟩<;>rcases QgA hk hj with ⟨g1,g2,g3⟩|⟨q,k',o2,rfl,g1,g2,g3,_,rfl,g5⟩
   . exact aj.inj i j o o' b (by rw[hS,Vc h1]; exact h2) (by rw[hS,Vc g1]; exact g2) hl hl' (by rw[<-h3]; exact hρ) (by rw[<-g3]; exact hρ')
   . have:=aj.inj i (H0.length+k') o o2 b (by rw[hS,Vc h1]; exact h2) (by rw[hS,Vk (by omega)]; simpa using g2) hl (AO.own_live g3) (by rw[<-h3]; exact hρ) (by rw[<-g5]; exact hρ');omega
   . have:=aj.inj (H0.length+k) j o1 o' b (by rw[hS,Vk (by omega)]; simpa using h2) (by rw[hS,Vc g1]; exact g2) (AO.own_live h3) hl' (by rw[<-h5]; exact hρ) (by rw[<-g3]; exact hρ');omega
   . have:=aj.inj (H0.length+k) (H0.length+k') o1 o2 b (by rw[hS,Vk (by omega)]; simpa using h2) (by rw[hS,Vk (by omega)]; simpa using g2) (AO.own_live h3) (AO.own_live g3) (by rw[<-h5]; exact hρ) (by rw[<-g5]; exact hρ');have e:k=k':=by omega
     subst e;rw[Qod hk h1 g1]
 . intro i o ho hl hne;rcases QgA hk ho with ⟨h1,h2,h3⟩|⟨p,k,o',rfl,h1,h2,h3,h6,rfl,h5⟩
   . obtain⟨l,x,m,us,U,k1,k2,k3,k4,k6⟩:=aj.lp i o (by rw[hS,Vc h1]; exact h2) hl hne;have hu:=Z i o h2;rw[k2]at hu;exact⟨l,x,m,us,U,h3.trans k1,k2,k3,k4,k6.extB (Qfv hS hk) ((SV.underL_iff _ _).2 λs hs=>hu s (by simp[hs]))⟩
   . cases hl
end
end
section
variable [QO] [QK] [Qv]
theorem QDB {P:ZN} {w:ZO} {l:Nat} {r:Loop} (h:w.heap[l]? = some (Obj.loop r)) (fn:ZP) (tmps:Array Value) (ps:Array Tmp) (assign body:Code) :
 (Instr.enterLoop fn tmps ps assign body (some l)).run P w =
  .ok (w.heap.size,[]) (w.alloc (.loop { state:=.ready,pending:=none,fn,tmps,params:=ps,assign,body,defers:=r.defers })):=by
 unfold Instr.enterLoop;simp only[Vo,run_getLoop h,run_newObj_alloc,Result.andThen,VJ]
end
section
variable [QO] [QK] [Qv]
def QuQ (o:Ins):Bool:=match o.j with|.p _=>true|_=>false
def Qnl (l:List Ins) (o:List Nat):List Ins:=o.filterMap λi=>l[i]?
def xre (P:ZN) (l:List Ins):List (List Nat)->Env->ZI->(ZH)->Prop
 |[],_,_,_=>True
 |o::r,U,H,K=>QbP P (Qnl l o) U H K/\xre P l r U H K
def Qc5 (aa:Array Oper) (os:List (List Nat)):Nat->List Nat->Array Bool->Bool
 |0,p,listed=>(Region.ready .any aa listed).isEmpty&&os.any (· == p)
 |n+1,p,listed=>if(Region.ready .any aa listed).isEmpty then os.any (· == p)else
  (Region.ready .any aa listed).all λi=>os.any (λo=>(p++[i]).isPrefixOf o)&&Qc5 aa os n (p++[i]) (listed.setIfInBounds i true)
section
variable {P:ZN} {N:Nat} {db:DB}
theorem Qwg {o:Ins} (h:QuQ o=true) (U:Env) (H:ZI):∃ (side:Prop) (aw:Env),∀ K:ZH,xo P o U H K↔side/\K .normal aw H:=by
 unfold QuQ at h;split at h
 . rename_i i hj
   cases hg:o.g with
   |none=>exact⟨(pv i U.ev H).1,U.put o.d (pv i U.ev H).2,λK=>by simp only[xo,xj,hg,hj]⟩
   |some sw =>
    obtain⟨s,want⟩:=sw;exact⟨(U.get s).bish=true/\((U.get s).on want=true->(pv i U.ev H).1),U.put o.d (.gd ((U.get s).on want) (pv i U.ev H).2),λK=>by simp only[xo,hg,hj,and_assoc]⟩
 . cases h
theorem Qtu {aa:Array Oper}:∀ {l:List Oper} {l':List Ins} {i:Nat} {o:Oper},chkL P N aa l l'=true->l[i]? = some o->∃ o',l'[i]? = some o'/\Qd2 P N aa o o'=true
 |[],_,i,o,_,h=>by simp at h
 |_::_,[],i,o,hc,h=>by simp[chkL]at hc
 |x::l,y::l',0,o,hc,h=>by
  simp only[chkL,Va]at hc;simp at h; subst h;exact⟨y,rfl,hc.1⟩
 |x::l,y::l',i+1,o,hc,h=>by
  simp only[chkL,Va]at hc;simpa using Qtu hc.2 (by simpa using h)
theorem Qqr {aa:Array Oper} {os:List (List Nat)}:∀ (n:Nat) (p:List Nat) (listed:Array Bool),Qc5 aa os n p listed=true->Qc5 aa os (n+1) p listed=true
 |0,p,listed,h=>by
  simp only[Qc5,Va]at h;rw[Qc5,Zr h.1]; exact h.2
 |n+1,p,listed,h=>by
  rw[Qc5]at h;rw[Qc5];by_cases he:(Region.ready .any aa listed).isEmpty=true
  . rw[Zr he]at h ⊢; exact h
  . rw[Zq he]at h ⊢;rw[Vi]at h ⊢;intro i hi;have:=h i hi;rw[Va]at this ⊢;exact⟨this.1,Qqr n _ _ this.2⟩
theorem Qs2 {aa:Array Oper} {os:List (List Nat)} {n:Nat} {p:List Nat} {listed:Array Bool} (h:Qc5 aa os n p listed=true):∀ d,Qc5 aa os (n+d) p listed=true
 |0=>h
 |d+1=>Qqr _ _ _ (Qs2 h d)
theorem QlS {md:Region.Mode} {aa:Array Oper} {Q Q':Exit->Act->ZO->Prop} (hq:∀ e a w,Q e a w->Q' e a w):∀ (fuel:Nat) (listed:Array Bool) (a:Act) (w:ZO),Qcx P md aa Q fuel listed a w->Qcx P md aa Q' fuel listed a w
 |0,_,_,_,h=>⟨h.1,hq _ _ _ h.2⟩
 |fuel+1,listed,a,w,h=>by
  refine⟨λhr=>hq _ _ _ (h.1 hr),λi hi => ?_⟩;have h3:=h.2 i hi;unfold Qb6 at h3 ⊢
  cases ho:aa[i]? with
  |none=>rw[ho]at h3; exact QlS hq fuel _ _ _ h3
  |some o =>
   rw[ho]at h3;simp only at h3 ⊢;split at h3
   . rename_i hwt;rw[Zr hwt];exact Oper.wq_mono (λa' w' h=>QlS hq fuel _ a' w' h) (λe a w _ h=>hq e a w h) h3
   . rename_i hwt;rw[Zq hwt];exact QlS hq fuel _ _ _ h3
def Qhr (o:Ins):Bool:=match o.j with|.p _=>true|.e (.st _ _ _)=>o.g.isNone|.e (.stw _ _ _ _)=>o.g.isNone|_=>false
theorem Qzz {o:Ins} (h:Qhr o=true) (U:Env) (H:ZI):∃ (side:Prop) (aw:Env) (H':ZI),∀ K:ZH,xo P o U H K↔side/\K .normal aw H':=by
 obtain⟨d,g,j⟩:=o;unfold Qhr at h;simp only at h;split at h
 . obtain⟨side,aw,hx⟩:=Qwg (P:=P) (o:=⟨d,g,.p _⟩) rfl U H;exact⟨side,aw,H,hx⟩
 . rename_i n p x;have hg:g=none:=by cases g with|none=>rfl|some _=>cases h
   subst hg;have key:∀ K:ZH,xo P ⟨d,none,.e (.st n p x)⟩ U H K↔((U.ev p).vd=true/\(U.ev x).vd=true/\QF (U.ev x).ug.flat/\(U.ev x).ug.flat.length=n/\0<n /\
    match (U.ev p).ug with
    |.ptr (.own i off _ _ ver) k=>off+k+n<=(Qo H i ver).length/\K .normal (U.put d (.val undef)) (setObj H i λo=>o.put (off+k) (U.ev x).ug.flat)
    |_=>False):=λK=>Iff.rfl
   by_cases hp:∃ i off a b ver k,(U.ev p).ug=.ptr (.own i off a b ver) k
   . obtain⟨i,off,a,b,ver,k,hp⟩:=hp;refine⟨(U.ev p).vd=true/\(U.ev x).vd=true/\QF (U.ev x).ug.flat/\(U.ev x).ug.flat.length=n/\0<n/\off+k+n<=(Qo H i ver).length,U.put d (.val undef),setObj H i λo=>o.put (off+k) (U.ev x).ug.flat,λK => ?_⟩;rw[key];rw[hp];simp only[and_assoc]
   . refine⟨False,U,H,λK => ?_⟩;rw[key];constructor
     . rintro⟨_,_,_,_,_,h6⟩;split at h6
       . rename_i hh; exact absurd ⟨_,_,_,_,_,_,hh⟩ hp
       . exact h6.elim
     . exact λh=>h.1.elim
 . rename_i ws n p x;have hg:g=none:=by cases g with|none=>rfl|some _=>cases h
   subst hg;have key:∀ K:ZH,xo P ⟨d,none,.e (.stw ws n p x)⟩ U H K↔((U.ev p).vd=true/\(U.ev x).vd=true/\QF (U.ev x).ug.flat/\(U.ev x).ug.flat.length=n/\0<n /\
    match (U.ev p).ug with
    |.ptr (.own i off _ _ ver) k=>off+k+n<=(Qo H i ver).length/\K .normal (U.put d (.val undef)) (setObj H i λo=>o.put (off+k) (U.ev x).ug.flat)
    |_=>False):=λK=>Iff.rfl
   by_cases hp:∃ i off a b ver k,(U.ev p).ug=.ptr (.own i off a b ver) k
   . obtain⟨i,off,a,b,ver,k,hp⟩:=hp;refine⟨(U.ev p).vd=true/\(U.ev x).vd=true/\QF (U.ev x).ug.flat/\(U.ev x).ug.flat.length=n/\0<n/\off+k+n<=(Qo H i ver).length,U.put d (.val undef),setObj H i λo=>o.put (off+k) (U.ev x).ug.flat,λK => ?_⟩;rw[key];rw[hp];simp only[and_assoc]
   . refine⟨False,U,H,λK => ?_⟩;rw[key];constructor
     . rintro⟨_,_,_,_,_,h6⟩;split at h6
       . rename_i hh; exact absurd ⟨_,_,_,_,_,_,hh⟩ hp
       . exact h6.elim
     . exact λh=>h.1.elim
 . cases h
def Qc9 (n0:Nat) (l:List Ins) (o:List Nat):List Ins:=o.filterMap λi=>l[i-n0]?
def xrt (P:ZN) (n0:Nat) (l:List Ins):List (List Nat)->Env->ZI->(ZH)->Prop
 |[],_,_,_=>True
 |o::r,U,H,K=>QbP P (Qc9 n0 l o) U H K/\xrt P n0 l r U H K
theorem Qtm {n0:Nat} {l:List Ins} {U:Env} {H:ZI} {K:ZH}:∀ {os:List (List Nat)},xrt P n0 l os U H K->∀ o∈os,QbP P (Qc9 n0 l o) U H K
 |[],_,o,ho=>by simp at ho
 |x::r,h,o,ho=>by
  rw[Vd]at ho;rcases ho with rfl|ho
  . exact h.1
  . exact Qtm h.2 o ho
theorem QzF {aa:Array Oper} {n0:Nat} {os:List (List Nat)} {l:List Ins} {S:St} {K:ZH} (hc:chkL P N aa (aa.toList.drop n0) l=true) (hp:l.all Qhr=true) :
 ∀ (fuel:Nat) (p:List Nat) (listed:Array Bool) (S':St) (U:Env) (a:Act),Qc5 aa os fuel p listed=true->listed.size=aa.size->(∀ i,i<n0->listed.getD i false=true)->(∀ rest,p++rest∈os->QbP P (Qc9 n0 l rest) U S'.H K) ->
  Ext S.H.length S S'->Sim S'->QH S' U a.tmps->a.tmps.size=N->db.Ok S'.w a.defers->Qcx P .any aa (Qar S N db K) fuel listed a S'.w:=by
 intro fuel;have hmem:∀ {p:List Nat},os.any (· == p)=true->p∈os:=by
  intro p h;rw[Yz]at h;obtain⟨x,hx,he⟩:=h;rw[<-eq_of_beq he]; exact hx
 have done:∀ (p:List Nat) (S':St) (U:Env) (a:Act),os.any (· == p)=true->(∀ rest,p++rest∈os->QbP P (Qc9 n0 l rest) U S'.H K) ->
  Ext S.H.length S S'->Sim S'->QH S' U a.tmps->a.tmps.size=N->db.Ok S'.w a.defers->Qar S N db K .normal a S'.w :=
  λp S' U a h hx he hS henv hN hd=>⟨.normal,U,S'.ρ,S'.H,trivial,he,hS,henv,hN,hd,hx [] (by simpa using hmem h)⟩
 induction fuel with
 |zero =>
  intro p listed S' U a hcm hsz hl hx he hS henv hN hd;simp only[Qc5,Va,List.isEmpty_iff]at hcm;exact⟨hcm.1,done p S' U a hcm.2 hx he hS henv hN hd⟩
 |succ n ih =>
  intro p listed S' U a hcm hsz hl hx he hS henv hN hd;simp only[Qc5]at hcm;refine⟨λhr => ?_,λi hi => ?_⟩
  . rw[hr]at hcm;exact done p S' U a (by simpa using hcm) hx he hS henv hN hd
  . rw[Zq (by intro h; rw[List.isEmpty_iff]at h; rw[h]at hi; simp at hi),Vi]at hcm;have h1:=hcm i hi;rw[Va]at h1;rw[mem_ready]at hi;obtain⟨g1,o,ho,hdeps⟩:=hi;have hlt:=(Yc.1 ho).1;have hin:n0<=i:=by
     rcases Vx i n0 with h|h
     . have:=hl i h;rw[Qih (by omega),this]at g1; cases g1
     . exact h
    obtain⟨o',ho',hins⟩:=Qtu hc (i:=i-n0) (by rw[VU,show n0+(i-n0)=i by omega]; simpa using ho);have hpu:Qhr o'=true:=by rw[Vi]at hp; exact hp o' (Vw ho')
    obtain⟨side,aw,H1,hxo⟩:=Qzz (P:=P) hpu U S'.H;have hpick:∀ rest,Qc9 n0 l (i::rest)=o'::Qc9 n0 l rest:=λrest=>by simp[Qc9,ho']
    have hrest:∀ rest,p++(i::rest)∈os->side/\QbP P (Qc9 n0 l rest) aw H1 K:=by
     intro rest hm;have h2:=hx (i::rest) hm;rw[hpick]at h2;simp only[QbP]at h2;exact(hxo _).1 h2
    have hside:side:=by
     have h2:=h1.1;rw[Yz]at h2;obtain⟨x,hx1,hx2⟩:=h2;rw[List.isPrefixOf_iff_prefix]at hx2;obtain⟨t,ht⟩:=hx2;refine(hrest t ?_).1;rw[show p++i::t=p++[i]++t by simp,ht]; exact hx1
    refine Qwi ho (QjA (Q:=Qar S N db K) (K:=λx e h=>x=.normal/\e=aw/\h=H1) hS henv hN hd hins ((hxo _).2 ⟨hside,rfl,rfl,rfl⟩) ?_ ?_)
    . rintro a' w' ⟨x,env1,ρ',H',hx',am,aj,henv',hN',hd',rfl,rfl,rfl⟩;refine ih (p++[i]) _ ⟨ρ',H',w'⟩ env1 a' h1.2 (by simpa using hsz) (λk hk => ?_) (λrest hm => ?_) (he.trans (am.mono (he.len (Vb _)))) aj henv' hN' hd'
      . rw[Qh9 (by omega),Zq (by omega)]; exact hl k hk
      . exact(hrest rest (by rw[show p++i::rest=p++[i]++rest by simp]; exact hm)).2
    . rintro ch a' w' ⟨x,env1,ρ',H',hx',am,aj,henv',hN',hd',rfl,_⟩;simp only[ER]at hx'
end
end
section
variable [QO] [QK] [Qv]
def QkC (aa:Array Oper) (l:List Ins):Bool:=aa.toList.all λo=>o.dst.isNone||l.any λi=>i.d==o.dst
def QdC:List Ins->Env->Env
 |[],e=>e
 |i::r,e=>(QdC r e).put i.d .any
theorem Qr7 {e:Env} {t:Nat}:∀ {l:List Ins},(∃ i∈l,i.d=some t)->(QdC l e).get t=.any
 |[],⟨_,h,_⟩=>by simp at h
 |i::r,⟨j,h,hj⟩=>by
  simp only[QdC];by_cases hi:i.d=some t
  . rw[hi]; simp[Env.put,Env.get]
  . have h2:(QdC r e).get t=.any:=by
     rcases Vd.1 h with rfl|h
     . exact absurd hj hi
     . exact Qr7 ⟨j,h,hj⟩
    cases hd:i.d with
    |none=>simpa[Env.put]using h2
    |some k =>
     have:k≠t:=λe=>hi (by rw[hd,e]);simp[Env.put,Env.get,this,h2]
theorem Qqh {e:Env} {t:Nat}:∀ {l:List Ins},(∀ i∈l,i.d≠some t)->(QdC l e).get t=e.get t
 |[],_=>rfl
 |i::r,h=>by
  simp only[QdC];have h2:=Qqh (e:=e) (t:=t) (l:=r) λj hj=>h j (by simp[hj]);have hi:=h i (by simp)
  cases hd:i.d with
  |none=>simpa[Env.put]using h2
  |some k =>
   have:k≠t:=λe=>hi (by rw[hd,e]);simp[Env.put,Env.get,this,h2]
def QfS (aa:Array Oper) (a a':Act):Prop:=∀ t,(∀ o∈aa.toList,o.dst≠some t)->a'.tmps.getD t undef=a.tmps.getD t undef
theorem QfS.put {aa:Array Oper} {a a':Act} {o:Oper} (h:QfS aa a a') {i:Nat} (ho:aa[i]? = some o) (v:Value):QfS aa a (a'.put o.dst v):=by
 intro t ht;have hmem:o∈aa.toList:=by rw[Array.mem_toList_iff]; exact Array.mem_of_getElem? ho
 have hne:=ht o hmem;rw[<-h t ht]
 cases hd:o.dst with
 |none=>rfl
 |some k =>
  have:k≠t:=λe=>hne (by rw[hd,e]);simp[Act.put,VV,this]
section
variable {P:ZN} {aa:Array Oper} {Q:Exit->Act->ZO->Prop} {a0:Act}
def QjP (aa:Array Oper) (a0:Act) (Q:Exit->Act->ZO->Prop):Exit->Act->ZO->Prop:=λe a w=>Q e a w/\(e≠.outgrown->QfS aa a0 a)
theorem Qqv (h:LetsOut Q):LetsOut (QjP aa a0 Q):=by
 obtain⟨a,w,h⟩:=h;exact⟨a,w,h,λh=>absurd rfl h⟩
theorem QBJ {i:Nat} {K K':Act->ZO->Prop} {a:Act} {w:ZO} (h:Qb6 P aa Q i K a w) (ha:QfS aa a0 a) (hK:∀ a' w',QfS aa a0 a'->K a' w'->K' a' w'):Qb6 P aa (QjP aa a0 Q) i K' a w:=by
 unfold Qb6 at *
 cases ho:aa[i]? with
 |none=>rw[ho]at h; exact hK _ _ ha h
 |some o =>
  rw[ho]at h;simp only at h ⊢;split
  . rename_i hw;rw[Zr hw]at h;unfold Oper.wq at *;generalize (execOp a.eval o).run P w=r at *
    cases r with
    |ok n w' =>
     cases n<;>simp only[Oper.uponIn]at h ⊢ <;> first|exact hK _ _ (ha.put ho _) h|exact hK _ _ (QfS.put (a':={ a with defers:=_::a.defers }) ha ho _) h|exact⟨h.1,RowsIn.mono h.2 λv w'' hv=>hK _ _ (ha.put ho v) hv⟩|(refine⟨h.1,CallsIn.mono h.2 λe w'' he => ?_⟩; cases e<;>first|exact hK _ _ (ha.put ho _) he|exact⟨he,λ_=>ha⟩|exact Qqv he)|(refine⟨h.1,RoundIn.mono h.2 λe w'' he => ?_⟩; cases e<;>first|exact hK _ _ (ha.put ho _) he|exact⟨he,λ_=>ha⟩|exact Qqv he)
    |halt hh w' =>
     cases hh<;>simp only[Oper.uponIn]at h ⊢ <;> exact⟨h,λ_=>ha⟩
  . rename_i hw;rw[Zq hw]at h;exact hK _ _ (ha.put ho _) h
theorem QtA {md:Region.Mode}:∀ (fuel:Nat) (listed:Array Bool) (a:Act) (w:ZO),Qcx P md aa Q fuel listed a w->QfS aa a0 a->Qcx P md aa (QjP aa a0 Q) fuel listed a w
 |0,listed,a,w,h,ha=>⟨h.1,h.2,λ_=>ha⟩
 |fuel+1,listed,a,w,h,ha=>⟨λhr=>⟨h.1 hr,λ_=>ha⟩,λi hi=>QBJ (h.2 i hi) ha λa' w' ha' h'=>QtA fuel _ a' w' h' ha'⟩
theorem Qar.off {S:St} {N:Nat} {db:DB} {K:ZH} {l:List Ins} {U:Env} {e:Exit} {a:Act} {w:ZO} (hS:QH S U a0.tmps) (hc:QkC aa l=true)
 (h:QjP aa a0 (Qar S N db λx e H=>match x with|.normal=>K .normal e H|x=>K x (QdC l U) H) e a w):Qar S N db K e a w:=by
 obtain⟨⟨x,aw,ρ,H,h1,h2,h3,h4,h5,h6,h7⟩,h8⟩:=h;have main:e≠.outgrown->QH ⟨ρ,H,w⟩ (QdC l U) a.tmps:=λhne=>by
  have hoff:=h8 hne;refine⟨λt => ?_⟩;by_cases ht:∃ i∈l,i.d=some t
  . rw[Qr7 ht]; exact .any _
  . rw[Qqh λi hi h=>ht ⟨i,hi,h⟩,hoff t λo ho hd => ?_]
    . exact(hS.ext h2).get t
    . unfold QkC at hc;rw[Vi]at hc;have:=hc o ho;rw[hd]at this;simp only[Option.isNone_some,Bool.false_or,Yz,Zu]at this;exact ht this
 cases x with
 |normal=>exact⟨.normal,aw,ρ,H,h1,h2,h3,h4,h5,h6,h7⟩
 |_ =>
  refine⟨_,_,ρ,H,h1,h2,h3,main ?_,h5,h6,h7⟩;rintro rfl;simp[ER]at h1
end
end
end Go.Ab
