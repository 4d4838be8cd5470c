/- Steps of the proof. -/
import Derived.Test.YtogjmpkehjfecaaGreatDoorCore1
import Derived.Laws.BytesString
import Derived.Laws.Append
import Derived.Laws.AppendOwn
import Derived.Laws.MakeOwn
import Derived.Laws.IdiomStrings
import Derived.Deep.Upon
import Derived.Laws.Cover3
import Derived.RangeFuncLeaves
import Derived.RangeFuncRecord
import Derived.Orders
import Derived.Conc.MuLone
set_option linter.all false
namespace Go.Ab
open Go.MapKept (run_setObj_map run_checkKey run_findKey run_keyThatStays)
section
variable [QK] [QE] [QF]
section
variable {P:Wx} {S:St} {e:Env} {a:Act}
theorem VR.fn_of {f:Fn} {x y:Wt} {us vs:Wu} (h:VRs S x us) (h':VRs S y vs):VR S (.fn f x y) (.func f us.toArray vs.toArray):=.fn f x y us vs h.1 h.2 h'.1 h'.2
theorem VR.slen_spec {x:SV} {v:Value} (hx:VR S x v) (hs:x.isSl=true):∃ ad cap,v=.slice ad x.slen cap:=by
 cases hx with
 |slc=>exact⟨_,_,rfl⟩
 |nilslc=>exact⟨_,_,rfl⟩
 |own=>exact⟨_,_,rfl⟩
 |val v =>
  have:v=.slice none 0 0:=by cases v<;>simp[SV.isSl]at hs; rename_i a b c; revert hs; cases a<;>cases b<;>cases c<;>simp
  subst this; exact⟨_,_,rfl⟩
 |_=>simp[SV.isSl]at hs
theorem QmD (f:Operand->Value) (as:Array Operand):as.map f=(as.toList.map f).toArray:=by cases as; simp
theorem VR.fn_inv {f:Fn} {x y:Wt} {v:Value} (h:VR S (.fn f x y) v):∃ us vs,v=.func f us.toArray vs.toArray/\VRs S x us/\VRs S y vs:=by
 cases h with
 |fn f x y us vs hl h hl' h'=>exact⟨us,vs,rfl,⟨hl,h⟩,⟨hl',h'⟩⟩
theorem Qqc (d:Nat) {w:Wy} {t:Ww} {ms:Array (String×Ww)} (h:P.underlying t=some (.interface ms)) (t':Ww) (v:Value):(Op.equalIn (d+1) t (.iface t' v) .nilIface).run P w=.ok false w:=by
 simp[Op.equalIn,run_underlying h]
theorem Qrt (d:Nat) {w:Wy} {t:Ww} {ms:Array (String×Ww)} (h:P.underlying t=some (.interface ms)) (t':Ww) (v:Value):(Op.equalIn (d+1) t .nilIface (.iface t' v)).run P w=.ok false w:=by
 simp[Op.equalIn,run_underlying h]
theorem Qt7 (d:Nat) {w:Wy} {t:Ww} {ms:Array (String×Ww)} (h:P.underlying t=some (.interface ms)):(Op.equalIn (d+1) t .nilIface .nilIface).run P w=.ok true w:=by
 simp[Op.equalIn,run_underlying h]
theorem QpH {t:Ww} {z:SV} (h:QfM P t z=true):∃ zv,(∀ w:Wy,(zeroValue t).run P w=.ok zv w)/\VR S z zv:=by
 unfold QfM at h;split at h
 . rename_i i hi;split at h
   . rename_i zv hz;refine⟨zv,λw=>by simp[zeroValue,typeInfo,hi,hz],?_⟩;split at h
     . rename_i l vs;rw[Va,Wd,Vy]at h;obtain⟨h1,h2⟩:=h;have:VR S (.agg l) (.agg vs.toList.toArray):=.agg l vs.toList h1 λj s u hj hu=>by
        have:=h2 (s,u) (Vp (i:=j) (by rw[ZB]; exact⟨hj,hu⟩));exact Qe1 this
       simpa using this
     . cases h
     . exact Qe1 h
   . cases h
 . cases h
theorem QoD:∀ {cs:Wt} {us:Wu},QeL cs us=true->VRs S cs us
 |[],[],_=>VRs.nil S
 |s::r,v::vs,h=>by simp only[QeL,Va]at h; exact VRs.cons (Qe1 h.1) (QoD h.2)
 |[],_::_,h=>by simp[QeL]at h
 |_::_,[],h=>by simp[QeL]at h
theorem QuP {t:Ww} {kk:KK} {z:SV} (h:QlL P t kk z=true):∃ kt et,P.underlying t=some (.map kt et)/\P.underlying kt=some kk.desc/\QfM P et z=true/\kk.szB P=true:=by
 unfold QlL at h;split at h
 . rename_i kt et hu;rw[Va]at h;have h1:=h.1;have key:P.underlying kt=some kk.desc/\kk.szB P=true:=by
    split at h1
    . rename_i hk; cases kk<;>simp at h1; exact⟨hk,rfl⟩
    . rename_i k hk; cases kk<;>simp at h1; subst h1; exact⟨hk,rfl⟩
    . rename_i hk; cases kk<;>simp at h1; exact⟨hk,rfl⟩
    . rename_i e hk
      cases kk<;>simp at h1
      obtain⟨rfl,h2⟩:=h1;exact⟨hk,h2⟩
    . rename_i n t' hk
      cases kk<;>simp at h1
      obtain⟨⟨rfl,rfl⟩,h2⟩:=h1;exact⟨hk,h2⟩
    . cases h1
   exact⟨kt,et,hu,key.1,h.2,key.2⟩
 . cases h
theorem QqH (hS:Sim S) {s:SV} {v:Value} (h:VR S s v) {x:Wu×Wt} (hm:s.mapOf S.H=some x) :
 ∃ es:Array MapEntry,((v=.map none/\es = #[])\/∃ r cl,v=.map (some r)/\S.w.heap[r]? = some (Obj.map es cl))/\x.1=es.toList.map (·.key)/\VRs S x.2 (es.toList.map (·.val)):=by
 cases h with
 |val v =>
  cases v<;>simp[SV.mapOf]at hm
  rename_i b
  cases b with
  |none=>simp at hm; subst hm; exact⟨#[],.inl ⟨rfl,rfl⟩,rfl,VRs.nil S⟩
  |some b=>simp at hm
 |mp i ver l o ho hv hat =>
  simp only[SV.mapOf,ho]at hm;split at hm
  . rename_i hcond;split at hm
    . rename_i ks vs hcells
      cases hm
      have ho2:S.H[i]? = some ⟨.mk ks::vs,o.ty,o.ver,false⟩:=by
       rw[ho]; congr 1;obtain⟨c,t,vv,lv⟩:=o;simp only at hcells hcond ⊢;rw[hcells,hcond.1]
      obtain⟨l',es,cl,h1,h2,h3,h4⟩:=hS.map ho2;rw[hat hcond.2]at h1; cases h1
      exact⟨es,.inr ⟨l,cl,rfl,h2⟩,h3,h4⟩
    . cases hm
  . cases hm
 |mpf vs l es cl us hb hn hu hl h =>
  simp only[SV.mapOf]at hm
  cases hm
  subst hu;exact⟨es,.inr ⟨l,cl,rfl,hb⟩,rfl,hl,h⟩
 |_=>simp[SV.mapOf]at hm
theorem QtJ {x:SV} {n:Int} {u:Value} (h:x.u8n=some n) (hv:VR S x u):u=.int .u8 n:=by
 unfold SV.u8n at h;split at h
 . cases h; cases hv; rfl
 . cases h
theorem Qsn (hS:Sim S) {x:SV} {v:Value} (hx:VR S x v) (hsl:x.isSl=true) (hb:QgW (x.row S.H) x.slen=true) {sT dT el:Ww} (hu:P.underlying sT=some (.slice el)) (hel:P.underlying el=some (.int .u8)) (hd:P.underlying dT=some .string) :
 (convert sT dT v).run P S.w=.ok (.string (Qgi ((x.row S.H).take x.slen))) S.w:=by
 unfold QgW at hb;rw[Va,Wd,Vy]at hb;obtain⟨hlen,hall⟩:=hb;have some_:∀ (ad:Addr) (cap:Nat),v=.slice (some ad) x.slen cap->(∀ j,j<x.slen->VR S (.ptr x j) (.pointer (some (ad.add j))))->(convert sT dT v).run P S.w=.ok (.string (Qgi ((x.row S.H).take x.slen))) S.w:=by
  intro ad cap hv hp;subst hv;rw[run_convert_bytes_string S.w sT dT el (some ad) x.slen cap hu hel hd];have hcell:∀ (j:Nat) (u:Value),((QdK ((x.row S.H).take x.slen)).map (Value.int .u8))[j]? = some u->S.w.cell? (ad.add j)=some u:=by
   intro j u hj;have hbl:∀ l:Wt,QdK l=l.map λs=>s.u8n.getD 0:=by
    intro l; induction l with
    |nil=>rfl
    |cons a r ih=>rw[QdK,ih]; rfl
   rw[hbl,YS,Vn,V9]at hj;obtain⟨c,hc,rfl⟩:=hj;have hjl:j<x.slen:=by
    have:=Qd hc;simp at this; omega
   have hc2:(x.row S.H)[j]? = some c:=by rw[Y0 hjl]at hc; exact hc
   obtain⟨ad',u',h1,h2,h3⟩:=(hp j hjl).at hS (j:=0) (c:=c) (by simp only[SV.at,Vr]; simpa using hc2)
   cases h1
   have h4:=hall c (Vp hc);obtain⟨n,hn⟩:=Zi.1 h4;have h5:=QtJ hn h3;rw[Qer,Yf]at h2;simp only[Function.comp,hn,VQ];rw[h2,h5]
  have hl:=run_loadCells_list (P:=P) S.w ad _ hcell;have hln:((QdK ((x.row S.H).take x.slen)).map (Value.int .u8)).length=x.slen:=by
   have hbl:∀ l:Wt,(QdK l).length=l.length:=by
    intro l; induction l with
    |nil=>rfl
    |cons a r ih=>simp[QdK,ih]
   rw[Y2,hbl,YB]; omega
  rw[hln]at hl;exact run_bytesToString S.w ad x.slen cap _ hl
 have none_:∀ cap,v=.slice none 0 cap->x.slen=0->(convert sT dT v).run P S.w=.ok (.string (Qgi ((x.row S.H).take x.slen))) S.w:=by
  intro cap hv h0;subst hv;rw[run_convert_bytes_string S.w sT dT el none 0 cap hu hel hd,h0];rfl
 cases hx with
 |slc cells len ad cap us hc hl hi h =>
  refine some_ ad cap rfl λj hj => ?_;exact .ptrI cells len _ ad us hl hi h
 |nilslc=>exact none_ 0 rfl rfl
 |own i off len sz' ver ad cap o ho hv hc hz h =>
  cases ad with
  |none =>
   have h0:=hz rfl;subst h0;exact none_ cap rfl rfl
  |some ad =>
   refine some_ ad cap rfl λj hj=>.ptrO i off len sz' ver _ _ o ho hv λe => ?_;have h2:=h e;unfold St.OwnAt at h2
   cases hρ:S.ρ i with
   |none=>rw[hρ]at h2; obtain⟨h2,_⟩:=h2; simp only[SV.slen]at hj; omega
   |some b =>
    rw[hρ]at h2;simp only[SV.slen]at hj;rcases h2 with h2|⟨h2,_⟩
    . omega
    . cases h2
      refine⟨b,rfl,?_⟩;unfold Addr.add; split
      . rename_i h3; simp
      . rfl
 |val v =>
  cases v<;>simp[SV.isSl]at hsl
  rename_i a len cap
  cases a with
  |none =>
   have h2:len=0/\cap=0:=by
    cases len<;>cases cap<;>simp_all
   obtain⟨rfl,rfl⟩:=h2;exact none_ 0 rfl rfl
  |some a=>simp at hsl
 |_=>simp[SV.isSl]at hsl
theorem Qmn (hS:Sim S) (he:QB S e a.tmps) {o:Oper} {i:I} (hc:QT P o.op i=true) (hs:(pv i e.ev S.H).1) :
 ∃ v,(execOp a.eval o).run P S.w=.ok (.value v) S.w/\VR S (pv i e.ev S.H).2 v:=by
 generalize hop:o.op=op at hc;have fin:∀ (m:Sem Value) (s:SV),(∃ v,m.run P S.w=.ok v S.w/\VR S s v) ->
  ∃ v,(do pure (Next.value (<- m)):Sem Next).run P S.w=.ok (.value v) S.w/\VR S s v:=by
  rintro m s ⟨v,h1,h2⟩; exact⟨v,by simp[h1],h2⟩
 cases i with
 |eqf neg ks x' y' =>
  simp only[QT]at hc;split at hc
  . rename_i op2 t x y yt;rw[Va,Va,Va]at hc;obtain⟨⟨⟨h1,h2⟩,h3⟩,h4⟩:=hc;simp only[pv]at hs ⊢;simp only[execOp,hop];split at hs
    . rename_i l m hl hm;simp only[];obtain⟨g1,g2,g3⟩:=hs;have k1:=(Qp h1 he).ug g1;have k2:=(Qp h2 he).ug g2;rw[hl]at k1; rw[hm]at k2;obtain⟨us,hu,hus⟩:=k1.agg_inv;obtain⟨vs,hv,hvs⟩:=k2.agg_inv;unfold Qnz at h3;rw[Va,VY]at h3;obtain⟨q2,q3⟩:=h3;have done:(Op.equal t (.agg us.toArray) (.agg vs.toArray)).run P S.w=.ok (QaU ks l m) S.w ->
       ∃ v,(execOp a.eval o).run P S.w=.ok (.value v) S.w/\VR S (bl (if neg=true then !QaU ks l m else QaU ks l m)) v:=by
       intro heq;simp only[execOp,hop];refine fin _ _ ⟨_,?_,.val _⟩;rw[hu,hv]
       cases neg with
       |true =>
        simp at h4; subst h4;simp[eqGuard,q2,binOp,heq]
       |false =>
        simp at h4; subst h4;simp[eqGuard,q2,binOp,heq]
      simp only[execOp,hop]at done;split at q3
      . rename_i fs hst;rw[Va,VY]at q3;obtain⟨q1,q3⟩:=q3;have hfo:P.fieldsOf t=fs:=by simp[Program.fieldsOf,hst]
        have hrun:=run_equalIn_struct (P:=P) S.w 9999 t us.toArray vs.toArray (by rw[hfo]; exact hst) q1;rw[hfo,Qgw (S:=S) 9998 S.w fs.toList ks 0 l m us vs q3 hus hvs (by simp) (by simp) g3]at hrun;exact done hrun
      . rename_i n el hst;rw[Va,Va,Wd,Vy]at q3;obtain⟨⟨q4,q5⟩,q6⟩:=q3;obtain⟨inf,hinf,hsz⟩:∃ inf,P.info? el=some inf/\inf.size=1:=by
         unfold QZ at q5;split at q5
         . rename_i i hi; exact⟨i,hi,by simpa using q5⟩
         . cases q5
        have hco:P.cellsOf el=1:=by simp[Program.cellsOf,hinf,hsz]
        have hrun:=run_equalIn_array (P:=P) S.w 9999 us.toArray vs.toArray hst hinf;rw[hco,Zj,<- q4,Qok (S:=S) 9998 S.w ks 0 l m us vs q6 hus hvs (by simp) (by simp) g3]at hrun;exact done hrun
      . cases q3
    . exact hs.elim
  . cases hc
 |mov y =>
  simp only[QT]at hc;split at hc
  . exact⟨_,by simp only[execOp,hop]; rfl,Qp hc he⟩
  . exact⟨_,by simp only[execOp,hop]; rfl,Qp hc he⟩
  . cases hc
 |pick c' a' b' =>
  simp only[QT]at hc;split at hc
  . rename_i c x y;simp only[Va]at hc;obtain⟨⟨h1,h2⟩,h3⟩:=hc;simp only[pv]at hs ⊢;obtain⟨g1,g2,g3⟩:=hs;have e1:=(Qp h1 he).isB g1;have e2:=Qp h2 he;have e3:=Qp h3 he;simp only[execOp,hop]
    cases hb:(e.ev c').bool with
    |true =>
     have e4:=e2.isB (g2 hb);refine⟨.bool (e.ev a').bool,?_,.val _⟩;simp[asBool,e1,hb,e4]
    |false =>
     have e4:=e3.isB (g3 hb);refine⟨.bool (e.ev b').bool,?_,.val _⟩;simp[asBool,e1,hb,e4]
  . cases hc
 |bin op' k x' y' =>
  simp only[QT]at hc;split at hc
  . rename_i op2 t x y yt;simp only[Va,Wc]at hc;obtain⟨⟨⟨h1,h2⟩,h3⟩,h4⟩:=hc;subst h1;simp only[pv]at hs ⊢;simp only[execOp,hop];refine fin _ _ (Qrm h4 (Qp h2 he) (Qp h3 he) ⟨?_,?_⟩ hs)
    . rintro rfl;simp only[Qfb,Va,We]at h4;have:=h4.2;split at this
      . rfl
      . cases this
    . rintro rfl;simp only[Qfb,Va,VE,Wl]at h4;have:=h4.2;split at this
      . rfl
      . cases this
  . cases hc
 |neg k x' =>
  simp only[QT]at hc;split at hc
  . have h1:=(Qp hc he).isI hs;refine⟨_,?_,.val _⟩;simp[execOp,hop,h1,Op.unary,Op.intArith]
  . cases hc
 |not x' =>
  simp only[QT]at hc;split at hc
  . have h1:=(Qp hc he).isB hs;refine⟨_,?_,.val _⟩;simp[execOp,hop,h1,Op.unary]
  . cases hc
 |cvi k x' =>
  simp only[QT]at hc;split at hc
  . rename_i s d x;simp only[Va]at hc;obtain⟨⟨h1,h2⟩,h3⟩:=hc;obtain⟨ds,hds⟩:=Zi.1 h2;obtain⟨k',hk⟩:=(Qp h1 he).isN hs;split at h3
    . rename_i k2 hd;simp at h3; subst h3;refine⟨_,?_,.val _⟩;simp[execOp,hop,hk,convert,run_underlying hds,run_underlying hd,Conv.intToInt]
    . cases h3
  . cases hc
 |ld1 p =>
  simp only[QT]at hc;split at hc
  . simp only[Va]at hc;simp only[pv]at hs ⊢;simp only[execOp,hop];exact fin _ _ (Qmr hS ((Qp hc.1 he).ug hs.1) hc.2 hs.2)
  . cases hc
 |ldn n p =>
  simp only[QT]at hc;split at hc
  . simp only[Va]at hc;simp only[pv]at hs ⊢;simp only[execOp,hop];exact fin _ _ (QmV hS ((Qp hc.1.1 he).ug hs.1) hc.1.2 hc.2 hs.2.1 hs.2.2)
  . cases hc
 |fa off p =>
  simp only[QT]at hc;split at hc
  . rename_i s x f;rw[Va]at hc;simp only[pv]at hs ⊢;simp only[execOp,hop];split at hs
    . rename_i s' k hp;simp only[];have h1:=(Qp hc.1 he).ug hs;rw[hp]at h1;obtain⟨ad,h2,h3⟩:=Qjw (off:=off) h1;refine fin _ _ ⟨_,?_,h3⟩;rw[h2];exact QqP hc.2 _
    . exact hs.elim
  . cases hc
 |fld1 off x' =>
  simp only[QT]at hc;split at hc
  . simp only[Va]at hc;simp only[pv]at hs ⊢;simp only[execOp,hop];split at hs
    . rename_i l hl;simp only[];exact fin _ _ ((QuD (Qp hc.1.1 he) hs.1 hl hc.1.2 hc.2 S.w).1 rfl hs.2)
    . exact hs.elim
  . cases hc
 |ia sz s j =>
  simp only[QT]at hc;split at hc
  . simp only[Va]at hc;simp only[pv]at hs ⊢;simp only[execOp,hop];obtain⟨g1,g2,g3,g4,g5⟩:=hs;obtain⟨k,hk⟩:=(Qp hc.1.2 he).isN g3;rw[hk];exact fin _ _ (Qp3 ((Qp hc.1.1 he).ug g1) g2 hc.2 g4 g5)
  . cases hc
 |gix g len sz cs j =>
  simp only[QT]at hc;split at hc
  . rename_i t g' ix;rw[Va,Va,Va,Wc]at hc;obtain⟨⟨⟨rfl,h2⟩,h1⟩,h3⟩:=hc;simp only[pv]at hs ⊢;simp only[execOp,hop];split at h3
    . rename_i n el hu;simp only[Va,Wc]at h3;obtain⟨g2,g3,g4⟩:=hs;unfold varB at h1;split at h1
      . rename_i us hg;have hc:=QoD (S:=S) h1;obtain⟨kk,hk⟩:=(Qp h2 he).isN g2;refine fin _ _ ⟨_,?_,.ptrI cs cs.length _ ⟨g',0,none⟩ us hc.1 (hS.gl g' us hg).1 hc.2⟩;rw[hk];exact Qm4 hu h3.2 ⟨g',0,none⟩ g3 (by rw[h3.1]; exact g4) S.w
      . cases h1
    . cases h3
  . cases hc
 |iap len sz p j =>
  simp only[QT]at hc;split at hc
  . rename_i t x ix;rw[Va,Va]at hc;obtain⟨⟨h1,h2⟩,h3⟩:=hc;simp only[pv]at hs ⊢;simp only[execOp,hop];split at h3
    . rename_i n el hu;simp only[Va,Wc]at h3;split at hs
      . rename_i s' k hp;simp only[];obtain⟨g1,g2,g3,g4⟩:=hs;have h4:=(Qp h1 he).ug g1;rw[hp]at h4;obtain⟨ad,h5,h6⟩:=Qjw (off:=(e.ev j).int.toNat*sz) h4;obtain⟨kk,hk⟩:=(Qp h2 he).isN g2;refine fin _ _ ⟨_,?_,h6⟩;rw[h5,hk];exact Qm4 hu h3.2 ad g3 (by rw[h3.1]; exact g4) S.w
      . exact hs.elim
    . cases h3
  . cases hc
 |ixs s j =>
  simp only[QT]at hc;split at hc
  . rename_i t x ix;rw[Va,Va]at hc;obtain⟨⟨h1,h2⟩,h3⟩:=hc;simp only[pv]at hs ⊢;simp only[execOp,hop];split at h3
    . rename_i hu;obtain⟨g1,g2,g3,g4⟩:=hs;obtain⟨kk,hk⟩:=(Qp h2 he).isN g2;have h4:=(Qp h1 he).isS g1;refine fin _ _ ⟨_,?_,.val _⟩;rw[h4,hk];exact Qrq hu _ g3 g4 S.w
    . cases h3
  . cases hc
 |ixa len sz one s j =>
  simp only[QT]at hc;split at hc
  . rename_i t x ix;rw[Va,Va]at hc;obtain⟨⟨h1,h2⟩,h3⟩:=hc;simp only[pv]at hs ⊢;simp only[execOp,hop];split at h3
    . rename_i n el hu;rw[Va,Va,Wc]at h3;split at hs
      . rename_i l hl;simp only[];obtain⟨g1,g2,g3,g4,g5,g6⟩:=hs;have h4:=(Qp h1 he).ug g1;rw[hl]at h4;obtain⟨us,h5,h6⟩:=h4.agg_inv;obtain⟨kk,hk⟩:=(Qp h2 he).isN g2;rw[h5,hk];exact fin _ _ (QrX hu h3.1.2 h3.2 h6 (by rw[h3.1.1]; exact g5) g6 g3 (by rw[h3.1.1]; exact g4))
      . exact hs.elim
    . cases h3
  . cases hc
 |sl sz x' lo' hi' =>
  simp only[QT]at hc;split at hc
  . simp only[Va]at hc;obtain⟨⟨⟨h1,h2⟩,h3⟩,h4⟩:=hc;simp only[pv]at hs ⊢;simp only[execOp,hop];obtain⟨g1,g2,g3,g4,g5,g6,g7⟩:=hs;obtain⟨el,hu,hsz⟩:=Qj4 h4;exact fin _ _ (QsU hu hsz ((Qp h1 he).ug g1) g2 h2 h3 he g4 g5 g6 g7 g3)
  . cases hc
 |sls x' lo' hi' =>
  simp only[QT]at hc;split at hc
  . rename_i t x lo hi;rw[Va,Va,Va]at hc;obtain⟨⟨⟨h1,h2⟩,h3⟩,h4⟩:=hc;simp only[pv]at hs ⊢;simp only[execOp,hop];obtain⟨g1,g4,g5,g6,g7⟩:=hs;split at h4
    . rename_i hu;have h5:=(Qp h1 he).isS g1;refine fin _ _ ⟨_,?_,.val _⟩;rw[h5];simp only[Instr.sliceAt,Instr.slice,Vo,run_underlying hu,Vv];rw[Wa (by simp)];simp only[Vo,Qjj (P:=P) (isS:=false) h2 h3 he g4 g5 g6 g7 (Vc _) S.w,Vv,VL]
    . cases h4
  . cases hc
 |sla n sz p lo' hi' =>
  simp only[QT]at hc;split at hc
  . rename_i t x lo hi;rw[Va,Va,Va]at hc;obtain⟨⟨⟨h1,h2⟩,h3⟩,h4⟩:=hc;simp only[pv]at hs ⊢;simp only[execOp,hop];obtain⟨g1,g2,g3,g4,g5,g6,g7⟩:=hs;split at h4
    . rename_i n' el hu;simp only[Va,Wc]at h4;obtain⟨rfl,hsz⟩:=h4;exact fin _ _ (Qsb hS hu hsz ((Qp h1 he).ug g1) h2 h3 he g2 g3 g4 g5 g6 g7)
    . cases h4
  . cases hc
 |ext x' j =>
  simp only[QT]at hc;split at hc
  . simp only[Va,Wc]at hc;obtain⟨h1,rfl⟩:=hc;simp only[pv]at hs ⊢;simp only[execOp,hop];split at hs
    . rename_i l hl;simp only[];have h4:=(Qp h1 he).ug hs.1;rw[hl]at h4;obtain⟨us,h5,h6⟩:=h4.tup_inv;obtain⟨u,h7,h8⟩:=h6.getD hs.2;refine fin _ _ ⟨u,?_,h8⟩;simp[h5,Instr.extract,h7]
    . exact hs.elim
  . cases hc
 |len x' =>
  simp only[QT]at hc;split at hc
  . rename_i as ts;split at hc
    . rename_i x t ha ht;rw[Va]at hc;obtain⟨h1,h2⟩:=hc;split at h2
      . rename_i el hu;simp only[pv]at hs ⊢;obtain⟨ad,cap,hv⟩:=((Qp h1 he).ug hs.1).slen_spec hs.2;refine⟨_,?_,.val _⟩;have ha':as = #[x]:=by rw[<-ha]
        have ht':ts = #[t]:=by rw[<-ht]
        subst ha' ht';simp[execOp,hop,resolve,invoke,builtin,Builtin.len_,run_underlying hu,hv,goInt]
      . cases h2
    . cases hc
  . cases hc
 |lens x' =>
  simp only[QT]at hc;split at hc
  . rename_i as ts;split at hc
    . rename_i x t ha ht;rw[Va]at hc;obtain⟨h1,h2⟩:=hc;split at h2
      . rename_i hu;have h5:=(Qp h1 he).isS hs;refine⟨_,?_,.val _⟩;have ha':as = #[x]:=by rw[<-ha]
        have ht':ts = #[t]:=by rw[<-ht]
        subst ha' ht';simp[execOp,hop,resolve,invoke,builtin,Builtin.len_,run_underlying hu,h5,goInt]
      . cases h2
    . cases hc
  . cases hc
 |mm mx k x' y' =>
  simp only[QT]at hc;split at hc
  . rename_i b as ts;split at hc
    . rename_i x y ha;rw[Va,Va]at hc;obtain⟨⟨h1,h2⟩,h3⟩:=hc;simp only[pv]at hs ⊢;have h5:=(Qp h1 he).isI hs.1;have h6:=(Qp h2 he).isI hs.2;have ha':as = #[x,y]:=by rw[<-ha]
      subst ha';refine⟨_,?_,.val _⟩
      cases mx with
      |true =>
       cases b<;>simp at h3
       simp[execOp,hop,resolve,invoke,builtin,Builtin.max_,Builtin.max2,h5,h6];omega
      |false =>
       cases b<;>simp at h3
       simp[execOp,hop,resolve,invoke,builtin,Builtin.min_,Builtin.min2,h5,h6];omega
    . cases hc
  . cases hc
 |mkf f first cap =>
  simp only[QT]at hc;split at hc
  . rename_i f' x y;rw[Va,Va]at hc;obtain⟨⟨h1,h2⟩,h3⟩:=hc;split at h1
    . simp at h1; subst h1;simp only[pv]at hs ⊢;simp only[execOp,hop];refine fin _ _ ⟨_,?_,VR.fn_of (QgF h2 he) (QgF h3 he)⟩;rw[QmD,QmD]; rfl
    . cases h1
  . cases hc
 |mki t x' =>
  simp only[QT]at hc;split at hc
  . rename_i t' x;rw[Va,Va,Wc]at hc;obtain⟨⟨rfl,h2⟩,h3⟩:=hc;simp only[pv]at hs ⊢;simp only[execOp,hop];refine fin _ _ ⟨_,run_makeInterface S.w _ _ ?_,.ifc _ _ _ (Qp h2 he)⟩;unfold Program.concrete
    cases hu:P.underlying t' with
    |none=>rw[hu]at h3; cases h3
    |some d=>rw[hu]at h3; cases d<;>simp_all
  . cases hc
 |nck x' =>
  simp only[QT]at hc;split at hc
  . simp only[pv]at hs ⊢;split at hs
    . rename_i s k hp;simp only[];have h1:=(Qp hc he).ug hs;rw[hp]at h1;obtain⟨ad,h2,_⟩:=Qjw (off:=0) h1;refine⟨_,?_,h1⟩;simp[execOp,hop,h2]
    . rename_i f x y hp;simp only[];have h1:=(Qp hc he).ug hs;rw[hp]at h1;obtain⟨us,vs,hv,h2,h3⟩:=h1.fn_inv;exact⟨.func (.func f) us.toArray vs.toArray,by simp[execOp,hop,hv],VR.fn_of h2 h3⟩
    . exact hs.elim
  . cases hc
 |ifn neg right x' =>
  simp only[QT]at hc;split at hc
  . rename_i op2 t x y yt;rw[Va,Va,Va]at hc;obtain⟨⟨⟨h1,h2⟩,h3⟩,h4⟩:=hc;simp only[pv]at hs ⊢;obtain⟨g1,g2⟩:=hs;have k1:=(Qp h2 he).ug g1;have hu:∃ ms,P.underlying t=some (.interface ms):=by
     unfold ifT at h4;split at h4
     . rename_i ms hu; exact⟨ms,hu⟩
     . cases h4
    obtain⟨ms,hu⟩:=hu;have hlit:(if right=true then y else x)=.const .nilIface:=by
     generalize (if right=true then y else x)=z at h3;split at h3
     . rfl
     . cases h3
    simp only[execOp,hop];have hv:(∃ t' w,a.eval (if right=true then x else y)=.iface t' w/\(e.ev x').ug.ifNil=false)\/(a.eval (if right=true then x else y)=.nilIface/\(e.ev x').ug.ifNil=true):=by
     generalize a.eval (if right=true then x else y)=v at k1;generalize (e.ev x').ug=s at k1 g2
     cases k1 with
     |ifc t' x v h=>exact .inl ⟨t',v,rfl,rfl⟩
     |val v=>cases v<;>simp_all [SV.isIf,SV.ifNil]
     |_=>simp[SV.isIf]at g2
    have q1:∀ (t':Ww) (w:Value),(Op.equal t (.iface t' w) .nilIface).run P S.w=.ok false S.w:=λt' w=>Qqc 9999 hu t' w;have q2:∀ (t':Ww) (w:Value),(Op.equal t .nilIface (.iface t' w)).run P S.w=.ok false S.w:=λt' w=>Qrt 9999 hu t' w;have q3:(Op.equal t .nilIface .nilIface).run P S.w=.ok true S.w:=Qt7 9999 hu;refine fin _ _ ⟨.bool (if(e.ev x').ug.ifNil=true then !neg else neg),?_,.val _⟩
    cases right with
    |true =>
     simp only[We]at hlit hv;subst hlit;have hev:a.eval (.const .nilIface)=.nilIface:=rfl;rw[hev];rcases hv with ⟨t',w,hv,hn⟩|⟨hv,hn⟩
     . rw[hv,hn]
       cases neg<;>simp at h1<;>subst h1<;>simp[eqGuard,binOp,q1]
     . rw[hv,hn]
       cases neg<;>simp at h1<;>subst h1<;>simp[eqGuard,binOp,q3]
    |false =>
     simp only[Wl,VE]at hlit hv;subst hlit;have hev:a.eval (.const .nilIface)=.nilIface:=rfl;rw[hev];rcases hv with ⟨t',w,hv,hn⟩|⟨hv,hn⟩
     . rw[hv,hn]
       cases neg<;>simp at h1<;>subst h1<;>simp[eqGuard,binOp,q2]
     . rw[hv,hn]
       cases neg<;>simp at h1<;>subst h1<;>simp[eqGuard,binOp,q3]
  . cases hc
 |tas t ok z x' =>
  simp only[QT]at hc;split at hc
  . rename_i x xt t2 ok2;rw[Va,Va,Va,Va,Wc,Wc]at hc;obtain⟨⟨⟨⟨rfl,rfl⟩,h3⟩,h4⟩,h5⟩:=hc;simp only[pv]at hs ⊢;obtain⟨g1,g2,g3⟩:=hs;have k1:=(Qp h3 he).ug g1;simp only[execOp,hop];obtain⟨d,hu,hni⟩:∃ d,P.underlying t2=some d/\∀ ms,d≠.interface ms:=by
     unfold Qmg at h5;split at h5
     . cases h5
     . rename_i d hn hd; exact⟨d,hd,λms e=>hn ms e⟩
     . cases h5
    obtain⟨zv,hz,hzv⟩:=QpH (S:=S) h4;generalize a.eval x=v at k1;generalize (e.ev x').ug=s at k1 g2 g3;have nilc:v=.nilIface->s.ifIs t2=false->∃ r,(Instr.typeAssert v xt t2 ok2).run P S.w=.ok r S.w/\VR S (if ok2=true then(if s.ifIs t2=true then .tup [s.ifVal,bl true]else .tup [z,bl false])else s.ifVal) r:=by
     intro hv hn;rw[hn]at g3 ⊢;have hok:ok2=true:=g3.resolve_right (by simp);subst hok hv;refine⟨.tuple #[zv,.bool false],?_,?_⟩
     . simp only[Instr.typeAssert,Vo,run_underlying hu,Vv]
       cases d<;>first|exact absurd rfl (hni _)|simp[hz]
     . simp only[We,Wl,VE];exact .tup [z,bl false] [zv,.bool false] rfl (VRs.cons hzv (VRs.cons (.val _) (VRs.nil S))).2
    refine fin _ _ ?_
    cases k1 with
    |ifc t' y w hw =>
     by_cases ht:t'=t2
     . subst ht;simp only[SV.ifIs,SV.ifVal,beq_self_eq_true,We]
       cases ok2 with
       |true =>
        refine⟨.tuple #[w,.bool true],?_,?_⟩
        . simp only[Instr.typeAssert,Vo,run_underlying hu,Vv]
          cases d<;>first|exact absurd rfl (hni _)|simp
        . exact .tup [y,bl true] [w,.bool true] rfl (VRs.cons hw (VRs.cons (.val _) (VRs.nil S))).2
       |false =>
        refine⟨w,?_,hw⟩;simp only[Instr.typeAssert,Vo,run_underlying hu,Vv]
        cases d<;>first|exact absurd rfl (hni _)|simp
     . have hn:(SV.ifc t' y).ifIs t2=false:=by simp[SV.ifIs,ht]
       rw[hn]at g3 ⊢;have hok:ok2=true:=g3.resolve_right (by simp);subst hok;refine⟨.tuple #[zv,.bool false],?_,?_⟩
       . simp only[Instr.typeAssert,Vo,run_underlying hu,Vv]
         cases d<;>first|exact absurd rfl (hni _)|simp[hz,ht]
       . simp only[We,Wl,VE];exact .tup [z,bl false] [zv,.bool false] rfl (VRs.cons hzv (VRs.cons (.val _) (VRs.nil S))).2
    |val v=>cases v<;>first|exact nilc rfl rfl|simp[SV.isIf]at g2
    |_=>simp[SV.isIf]at g2
  . cases hc
 |iav sz s j =>
  simp only[QT]at hc;split at hc
  . rename_i t x ix;simp only[Va]at hc;obtain⟨⟨h1,h2⟩,h3⟩:=hc;simp only[pv]at hs ⊢;simp only[execOp,hop];split at hs
    . rename_i ad len cap hsl;obtain⟨g1,g2,g3,g4⟩:=hs;simp only[];refine fin _ _ ?_;have k1:=(Qp h1 he).ug g1;rw[hsl]at k1;obtain⟨k,hv⟩:=(Qp h2 he).isN g2;obtain⟨el,hu,hsz⟩:=Qj4 h3;have hx:a.eval x=.slice (some ad) len cap:=by
       generalize a.eval x=v at k1
       cases k1; rfl
      refine⟨_,?_,.val _⟩;rw[hv,hx];simp[Instr.indexAt,QdY,run_underlying hu,g3,g4,Qci hsz]
    . exact hs.elim
  . cases hc
 |bys x' =>
  simp only[QT]at hc;split at hc
  . rename_i sT dT x;rw[Va,Va]at hc;obtain⟨⟨h1,h2⟩,h3⟩:=hc;split at h2
    . rename_i hd;split at h3
      . rename_i el hu;split at h3
        . rename_i hel;simp only[pv]at hs ⊢;simp only[execOp,hop];obtain⟨g1,g2,g3⟩:=hs;refine fin _ _ ⟨_,?_,.val _⟩;exact Qsn hS ((Qp h1 he).ug g1) g2 g3 hu hel hd
        . cases h3
      . cases h3
    . cases h2
  . cases hc
 |lnv x' =>
  simp only[QT]at hc;split at hc
  . rename_i as ts;split at hc
    . rename_i x t ha ht;rw[Va]at hc;obtain⟨h1,h2⟩:=hc;split at h2
      . rename_i el hu;simp only[pv]at hs ⊢;split at hs
        . rename_i ad len cap hsl;simp only[];have k1:=(Qp h1 he).ug hs;rw[hsl]at k1;have hv:a.eval x=.slice ad len cap:=by
           generalize a.eval x=v at k1
           cases k1; rfl
          refine⟨_,?_,.val _⟩;have ha':as = #[x]:=by rw[<-ha]
          have ht':ts = #[t]:=by rw[<-ht]
          subst ha' ht';simp[execOp,hop,resolve,invoke,builtin,Builtin.len_,run_underlying hu,hv,goInt]
        . exact hs.elim
      . cases h2
    . cases hc
  . cases hc
 |lkp kk ok z m' k' =>
  simp only[QT]at hc;split at hc
  . rename_i t m k ok';rw[Va,Va,Va,Wc]at hc;obtain⟨⟨⟨rfl,h1⟩,h2⟩,h3⟩:=hc;simp only[pv]at hs ⊢
    cases hmo:(e.ev m').ug.mapOf S.H with
    |none=>rw[hmo]at hs; exact hs.elim
    |some x =>
    rw[hmo]at hs;obtain⟨g1,g2,g3,g4⟩:=hs;obtain⟨kt,et,hu,hk,hz,hzz⟩:=QuP h3;obtain⟨zv,hzr,hzv⟩:=QpH (S:=S) hz;have k1:=(Qp h1 he).ug g1;obtain⟨k2,k3⟩:=(Qp h2 he).isK g2;simp only[execOp,hop];obtain⟨es,hrun,hks,hvs⟩:=QqH hS k1 hmo;rw[hks]at g3 g4;rw[<-k2]at g4;obtain⟨r,hf,hr⟩:=QqS (S:=S) hk hzz hS k3 g3 g4 hvs;rw[hks];refine fin _ _ ?_;have hck:=QoI (P:=P) (w:=S.w) hk hzz k3 es.isEmpty;have hfk:=hf;have hlook:∀ (q:Option (Nat×Value)),(Instr.findKey kt (a.eval k) es.toList).run P S.w=.ok q S.w ->
     (Instr.lookup t (a.eval m) (a.eval k) ok').run P S.w=match q with
      |some (_,v)=>.ok (if ok'=true then .tuple #[v,.bool true]else v) S.w
      |none=>.ok (if ok'=true then .tuple #[zv,.bool false]else zv) S.w:=by
     intro q hq;rcases hrun with ⟨hm,rfl⟩|⟨r',cl,hm,hb⟩
     . rw[hm];have hck:(Instr.checkKey true 10000 kt (a.eval k)).run P S.w=.ok () S.w:=hck;have hq:(Instr.findKey kt (a.eval k) []).run P S.w=.ok q S.w:=hq
       cases q with
       |none=>cases ok'<;>simp[Instr.lookup,run_underlying hu,hck,hq,hzr,Result.andThen]
       |some q=>obtain⟨j,v⟩:=q; cases ok'<;>simp[Instr.lookup,run_underlying hu,hck,hq,Result.andThen]
     . rw[hm]
       cases q with
       |none=>cases ok'<;>simp[Instr.lookup,run_underlying hu,Go.MapKept.run_getObj_map hb,hck,hq,hzr,Result.andThen]
       |some q=>obtain⟨j,v⟩:=q; cases ok'<;>simp[Instr.lookup,run_underlying hu,Go.MapKept.run_getObj_map hb,hck,hq,Result.andThen]
    rw[<-k2]
    cases hl:lkm (a.eval k) (es.toList.map (·.key)) x.2 with
    |none =>
     rw[hl]at hr;subst hr;refine⟨_,hlook _ hfk,?_⟩
     cases ok' with
     |true=>exact .tup [z,bl false] [zv,.bool false] rfl (VRs.cons hzv (VRs.cons (.val _) (VRs.nil S))).2
     |false=>exact hzv
    |some s =>
     rw[hl]at hr;obtain⟨j,u,rfl,hsu⟩:=hr;refine⟨_,hlook _ hfk,?_⟩
     cases ok' with
     |true=>exact .tup [s,bl true] [u,.bool true] rfl (VRs.cons hsu (VRs.cons (.val _) (VRs.nil S))).2
     |false=>exact hsu
  . cases hc
 |no=>simp only[pv]at hs
 |kro T sz len z parts=>simp[QT]at hc
 |bld z parts =>
  simp only[QT]at hc;split at hc
  . rename_i t ps;simp only[Va]at hc;simp only[pv]at hs ⊢;simp only[execOp,hop];have:=Qsr (ps:=ps.toList) hc.1.1 hc.1.2 hc.2 he hs;refine fin _ _ ?_;have e1:(ps.map λx=>(x.1,a.eval x.2))=(ps.toList.map λp=>(p.1,a.eval p.2)).toArray:=by cases ps; simp
    obtain⟨u,h1,h2⟩:=this;refine⟨u,?_,h2⟩;rw[<-h1,<- e1]
  . cases hc
end
end
end Go.Ab
namespace Go.Ab
section
variable [QK] [QE] [QF]
inductive E where
 |alc (T:Ww) (z:Wt)
 |box (T:Ww) (x:Od)
 |bsl (T:Ww) (sz len:Nat) (z:Wt) (parts:List (Nat×Od))
 |mks (T:Ww) (sz bytes:Nat) (z:Wt) (len cap:Od)
 |app (T:Ww) (sz bytes:Nat) (s x:Od)
 |st (n:Nat) (p x:Od)
 |stw (ws:List Nat) (n:Nat) (p x:Od)
 |cpy (sz:Nat) (d s:Od)
 |call (f:Od) (args:List Od)
 |nil (T:Ww) (sz:Nat) (x:Od)
 |snil (neg right:Bool) (x:Od)
 |sby (x:Od)
 |aps (T:Ww) (s x:Od)
 |flo (i:Nat) (T:Ww) (sz bytes:Nat) (z:Wt) (len cap:Od)
 |fle (i:Nat) (T:Ww) (sz:Nat)
 |fla (i:Nat) (T:Ww) (z:Wt)
 |flb (i:Nat) (T:Ww) (sz len:Nat) (z:Wt) (parts:List (Nat×Od))
 |pan (x:Od)
 |calln (f:Od) (args:List Od)
 |mkm (T:Ww)
 |mup (kk:KK) (m k v:Od)
def Qbp (s:ByteArray):Wt:=s.data.toList.map λb=>.val (.int .u8 b.toNat)
def SV.isNil:SV->Bool
 |.val (.slice none 0 0)=>true
 |_=>false
def Qy (l:Wt):Prop:=∀ s∈l,s.isCell=true
def SV.els (H:Ws) (sz:Nat) (s:SV):Wt:=(s.row H).take (s.slen*sz)
def setObj (H:Ws) (i:Nat) (f:AO->AO):Ws :=
 match H[i]? with
 |some o=>H.set i (f o)
 |none=>H
def AO.put (o:AO) (off:Nat) (cs:Wt):AO:={ o with cells:=o.cells.take off++cs++o.cells.drop (off+cs.length) }
def AO.grow (o:AO) (cs:Wt):AO:={ o with cells:=o.cells++cs,ver:=o.ver+1 }
def xe (i:E) (g:Od->SV) (H:Ws) (K:SV->Ws->Prop):Prop :=
 match i with
 |.alc T z=>K (.ptr (.own H.length 0 0 0 0) 0) (H++[⟨z,T,0,true⟩])
 |.box T x=>(g x).vd=true/\Qy (g x).ug.flat/\K (.ptr (.own H.length 0 0 0 0) 0) (H++[⟨(g x).ug.flat,T,0,true⟩])
 |.bsl T sz len z parts =>
  (∀ p∈parts,Q9 sz (g p.2)/\p.1*sz+sz<=len*sz)/\Qy (Qah (List.replicate len z).flatten (parts.map λp=>(p.1*sz,g p.2))) /\
   K (.own H.length 0 len sz 0) (H++[⟨Qah (List.replicate len z).flatten (parts.map λp=>(p.1*sz,g p.2)),T,0,true⟩])
 |.mks T sz bytes z len cap =>
  (g len).isN=true/\(g cap).isN=true/\0<=(g len).int/\(g len).int<=(g cap).int/\bytes*(g cap).int<=140737488355328/\(g cap).int<=140737488355328 /\
   K (.own H.length 0 (g len).int.toNat sz 0) (H++[⟨(List.replicate (g len).int.toNat z).flatten,T,0,true⟩])
 |.app T sz bytes s x =>
  (g s).vd=true/\(g x).vd=true/\(g x).ug.isSl=true/\(g x).ug.slen*sz<=((g x).ug.row H).length/\Qy ((g x).ug.els H sz) /\
   ((g s).ug.slen+(g x).ug.slen)*bytes<=140737488355328/\(g s).ug.slen+(g x).ug.slen<=140737488355328 /\
   match (g s).ug with
   |.own i 0 n sz' ver =>
    sz'=sz/\(∃ o,H[i]? = some o/\o.live=true/\o.ver=ver/\o.ty=T/\o.cells.length=n*sz)/\K (.own i 0 (n+(g x).ug.slen) sz (ver+1)) (setObj H i λo=>o.grow ((g x).ug.els H sz))
   |v=>v.isNil=true/\K (.own H.length 0 (g x).ug.slen sz 1) (H++[⟨(g x).ug.els H sz,T,1,true⟩])
 |.st n p x =>
  (g p).vd=true/\(g x).vd=true/\Qy (g x).ug.flat/\(g x).ug.flat.length=n/\0<n /\
   match (g p).ug with
   |.ptr (.own i off _ _ ver) k=>off+k+n<=(Qe H i ver).length/\K (.val undef) (setObj H i λo=>o.put (off+k) (g x).ug.flat)
   |_=>False
 |.stw _ n p x =>
  (g p).vd=true/\(g x).vd=true/\Qy (g x).ug.flat/\(g x).ug.flat.length=n/\0<n /\
   match (g p).ug with
   |.ptr (.own i off _ _ ver) k=>off+k+n<=(Qe H i ver).length/\K (.val undef) (setObj H i λo=>o.put (off+k) (g x).ug.flat)
   |_=>False
 |.nil T sz x=>(g x).vd=true/\(g x).ug.isNil=true/\K (.own H.length 0 0 sz 0) (H++[⟨[],T,0,true⟩])
 |.aps T s x =>
  (g s).vd=true/\(g x).isS=true/\(g s).ug.slen+(g x).str.size<=140737488355328 /\
   match (g s).ug with
   |.own i 0 n sz' ver =>
    sz'=1/\(∃ o,H[i]? = some o/\o.live=true/\o.ver=ver/\o.ty=T/\o.cells.length=n*1)/\K (.own i 0 (n+(g x).str.size) 1 (ver+1)) (setObj H i λo=>o.grow (Qbp (g x).str))
   |v=>v.isNil=true/\K (.own H.length 0 (g x).str.size 1 1) (H++[⟨Qbp (g x).str,T,1,true⟩])
 |.sby x=>(g x).isS=true/\K (.slc (Qbp (g x).str) (g x).str.size) H
 |.snil neg _ x=>(g x).vd=true/\(g x).ug.isSl=true/\((g x).ug.slen≠0->K (bl neg) H)/\((g x).ug.slen=0->K (bl neg) H/\K (bl (!neg)) H)
 |.flo i T sz bytes z len cap =>
  (g len).isN=true/\(g cap).isN=true/\0<=(g len).int/\(g len).int<=(g cap).int/\bytes*(g cap).int<=140737488355328/\(g cap).int<=140737488355328 /\
   H[i]? = some ⟨[],T,0,false⟩/\K (.own i 0 (g len).int.toNat sz 1) (H.set i ⟨(List.replicate (g len).int.toNat z).flatten,T,1,true⟩)
 |.fle i T sz=>H[i]? = some ⟨[],T,0,false⟩/\K (.own i 0 0 sz 1) (H.set i ⟨[],T,1,true⟩)
 |.fla i T z=>H[i]? = some ⟨[],T,0,false⟩/\K (.ptr (.own i 0 0 0 1) 0) (H.set i ⟨z,T,1,true⟩)
 |.flb i T sz len z parts =>
  (∀ p∈parts,Q9 sz (g p.2)/\p.1*sz+sz<=len*sz)/\Qy (Qah (List.replicate len z).flatten (parts.map λp=>(p.1*sz,g p.2))) /\
   H[i]? = some ⟨[],T,0,false⟩/\K (.own i 0 len sz 1) (H.set i ⟨Qah (List.replicate len z).flatten (parts.map λp=>(p.1*sz,g p.2)),T,1,true⟩)
 |.cpy sz d s=>(g d).vd=true/\(g s).vd=true/\(g s).ug.isSl=true/\(g s).ug.slen*sz<=((g s).ug.row H).length/\Qy ((g s).ug.els H sz) /\
  match (g d).ug with
  |.own i off n _ ver=>0<n/\n=(g s).ug.slen/\off+n<=(Qe H i ver).length/\K (i64 n) (setObj H i λo=>o.put off ((g s).ug.els H sz))
  |_=>False
 |.mkm T=>K (.mp H.length 0) (H++[⟨[.mk []],T,0,false⟩])
 |.mup kk m k v=>(g m).vd=true/\(g k).isK kk=true/\(g v).vd=true /\
  match (g m).ug,(g m).ug.mapOf H with
  |.mp i _,some x=>x.1.all kk.is=true/\(∀ v∈(g k).key kk::x.1,kk.knows v)/\K (.val undef) (setObj H i λo=>{ o with cells:=.mk (QbN ((g k).key kk) x.1)::QbR ((g k).key kk) (g v).ug x.1 x.2 })
  |_,_=>False
 |_=>False
def Qd6 (P:Wx) (t:Ww) (sz bytes:Nat):Bool:=match P.info? t with|some i=>i.size==sz&&i.bytes==bytes&&(match i.zero with|some z=>z.cells.size==sz|none=>false)|none=>false
def Qeq:List (Nat×Operand)->List (Nat×Od)->Bool
 |[],[]=>true
 | (f,x)::r,(f',y)::s=>f==f'&&Qm x y&&Qeq r s
 |_,_=>false
def Qdw (P:Wx) (t e:Ww):Bool:=match P.underlying t with|some (.slice e')=>e'==e|_=>false
def QiH (P:Wx) (t:Ww) (kk:KK):Bool :=
 match P.underlying t with
 |some (.map kt _)=>(match P.underlying kt with
  |some .string=>(match kk with|.s=>true|_=>false)
  |some (.int k)=>(match kk with|.i k'=>decide (k'=k)|_=>false)
  |some .bool=>(match kk with|.b=>true|_=>false)
  |some (.pointer e)=>(match kk with|.p e'=>decide (e'=e)&&(KK.p e').szB P|_=>false)
  |some (.array n t)=>(match kk with|.pp t' e'=>decide (n=2/\t'=t)&&(KK.pp t' e').szB P|_=>false)
  |_=>false)
 |_=>false
def Qav (P:Wx) (op:Op) (i:E):Bool :=
 match i with
 |.alc T z=>match op with|.alloc T'=>T'==T&&Qcx P T z|_=>false
 |.box T x'=>match op with|.box T' x=>T'==T&&Qm x x'|_=>false
 |.bsl T sz len z parts=>match op with|.buildSlice t len' ps=>Qdw P t T&&QZ P T sz&&len'==len&&Qcx P T z&&z.length==sz&&decide (len*sz<=16777216)&&Qeq ps.toList parts|_=>false
 |.mks T sz bytes z len cap=>match op with|.makeSlice t l c=>Qdw P t T&&Qd6 P T sz bytes&&Qcx P T z&&z.length==sz&&Qm l len&&Qm c cap|_=>false
 |.cpy sz d s=>match op with
  |.call { callee:=.builtin .copy,args:=as,argTypes:=ts }=>(match as.toList,ts.toList with
   |[d',s'],[t,t']=>t==t'&&Qm d' d&&Qm s' s&&sz==1&&(match P.underlying t with|some (.slice e)=>(match P.info? e with|some i=>i.size==1|none=>false)|_=>false)
   |_,_=>false)
  |_=>false
 |.app T sz bytes s x=>match op with
  |.call { callee:=.builtin .append,args:=as,argTypes:=ts }=>(match as.toList,ts.toList with
   |[s',x'],[t,t']=>t==t'&&Qm s' s&&Qm x' x&&Qdw P t T&&Qd6 P T sz bytes&&decide (0<sz)
   |_,_=>false)
  |_=>false
 |.st n p x=>match op with|.store t p' x'=>Qm p' p&&Qm x' x&&QZ P t n|_=>false
 |.stw _ n p x=>match op with|.store t p' x'=>Qm p' p&&Qm x' x&&QZ P t n|_=>false
 |.nil _ _ x=>match op with|.move x'|.assign x'=>Qm x' x|_=>false
 |.flo _ T sz bytes z len cap=>match op with|.makeSlice t l c=>Qdw P t T&&Qd6 P T sz bytes&&Qcx P T z&&z.length==sz&&Qm l len&&Qm c cap|_=>false
 |.fle _ T sz=>match op with|.buildSlice t len' ps=>Qdw P t T&&QZ P T sz&&len'==0&&ps.isEmpty|_=>false
 |.fla _ T z=>match op with|.alloc T'=>T'==T&&Qcx P T z|_=>false
 |.flb _ T sz len z parts=>match op with|.buildSlice t len' ps=>Qdw P t T&&QZ P T sz&&len'==len&&Qcx P T z&&z.length==sz&&decide (len*sz<=16777216)&&Qeq ps.toList parts|_=>false
 |.aps T s x=>match op with
  |.call { callee:=.builtin .append,args:=as,argTypes:=ts }=>(match as.toList,ts.toList with
   |[s',x'],[t,t']=>Qm s' s&&Qm x' x&&Qdw P t T&&Qd6 P T 1 1&&(match P.underlying t' with|some .string=>true|_=>false)
   |_,_=>false)
  |_=>false
 |.sby x=>match op with
  |.convert src dst x'=>Qm x' x&&(match P.underlying src with|some .string=>true|_=>false) &&
   (match P.underlying dst with|some (.slice e)=>(match P.underlying e with|some (.int .u8)=>true|_=>false)|_=>false)
  |_=>false
 |.snil neg right x=>match op with
  |.binOp op t x' y' _=>(if neg then op==.neq else op==.eql)&&Qm (if right then x' else y') x&&(match (if right then y' else x')with|.const (.slice none 0 0)=>true|_=>false) &&
   (match P.underlying t with|some (.slice _)=>true|_=>false)
  |_=>false
 |.pan x=>match op with|.panic x'=>Qm x' x|_=>false
 |.mkm T=>match op with
  |.makeMap T' none=>T'==T
  |.makeMap T' (some (.const (.int _ _)))=>T'==T&&(match P.underlying T with|some (.map _ _)=>true|_=>false)
  |_=>false
 |.mup kk m k v=>match op with|.mapUpdate t m' k' v'|.insert t m' k' v'=>Qm m' m&&Qm k' k&&Qm v' v&&QiH P t kk|_=>false
 |.call f args=>match op with|.call { callee:=.value f',args:=as,argTypes:=_ }=>Qm f' f&&Qdr as.toList args|_=>false
 |.calln f args=>match op with|.call { callee:=.value f',args:=as,argTypes:=_ }=>Qm f' f&&Qdr as.toList args|_=>false
section
variable {P:Wx} {S:St} {e:Env} {a:Act}
theorem QcL {t T:Ww} (h:Qdw P t T=true):P.underlying t=some (.slice T):=by
 unfold Qdw at h;split at h
 . rename_i e' hu; simp at h; subst h; exact hu
 . cases h
theorem QtP {t:Ww} {kk:KK} (h:QiH P t kk=true):∃ kt et,P.underlying t=some (.map kt et)/\P.underlying kt=some kk.desc/\kk.szB P=true:=by
 unfold QiH at h;split at h
 . rename_i kt et hu;have key:P.underlying kt=some kk.desc/\kk.szB P=true:=by
    split at h
    . rename_i hk; cases kk<;>simp at h; exact⟨hk,rfl⟩
    . rename_i k hk; cases kk<;>simp at h; subst h; exact⟨hk,rfl⟩
    . rename_i hk; cases kk<;>simp at h; exact⟨hk,rfl⟩
    . rename_i e hk
      cases kk<;>simp at h
      obtain⟨rfl,h2⟩:=h;exact⟨hk,h2⟩
    . rename_i n t' hk
      cases kk<;>simp at h
      obtain⟨⟨rfl,rfl⟩,h2⟩:=h;exact⟨hk,h2⟩
    . cases h
   exact⟨kt,et,hu,key.1,key.2⟩
 . cases h
theorem Qjz {t:Ww} {sz bytes:Nat} (h:Qd6 P t sz bytes=true):∃ i z,P.info? t=some i/\i.zero=some z/\i.size=sz/\i.bytes=bytes/\z.cells.size=sz:=by
 unfold Qd6 at h;split at h
 . rename_i i hi;rw[Va,Va,Wc,Wc]at h;obtain⟨⟨h1,h2⟩,h3⟩:=h;split at h3
   . rename_i z hz; exact⟨i,z,hi,hz,h1,h2,by simpa using h3⟩
   . cases h3
 . cases h
theorem QiM (w:Wy) (g:Nat) (cs cur:Array Value) (T:Ww) (f:Nat×Nat) (hg:w.heap[g]? = some (.cells cur T f)) :
 w.setRow g cs={ w with heap:=w.heap.setIfInBounds g (.cells cs T f) }:=by
 unfold World.setRow;congr 1;apply Z5;intro j;rw[Z6,YP];have hlt:g<w.heap.size:=by
  rcases VH g w.heap.size with h1|h1
  . exact h1
  . rw[Yw h1]at hg; cases hg
 by_cases h:g=j
 . subst h; rw[Wb rfl,Wb rfl,Wb hlt,hg]; rfl
 . rw[Wa h,Wa h]
theorem VR.els {s:SV} {v:Value} {sz:Nat} (hS:Sim S) (hv:VR S s v) (hs:s.isSl=true) (hl:s.slen*sz<=(s.row S.H).length) :
 ∃ ad cap us,v=.slice ad s.slen cap/\us.length=s.slen*sz/\VRs S (s.els S.H sz) us/\(∀ x,ad=some x->∀ j u,us[j]? = some u->S.w.cell? (x.add j)=some u)/\(ad=none->s.slen=0):=by
 cases hv with
 |slc cells len ad cap us hc hl' hi h =>
  simp only[SV.slen,SV.row,SV.els]at *;refine⟨some ad,cap,us.take (len*sz),rfl,by simp; omega,⟨by simp; omega,?_⟩,?_,λh=>by cases h⟩
  . exact(VRs.take (S:=S) ⟨hl',h⟩ _).2
  . intro x hx j u hj
    cases hx
    rw[VD]at hj;split at hj
    . exact hi.1 j u hj
    . cases hj
 |nilslc=>exact⟨none,0,[],rfl,by simp[SV.slen],by simpa[SV.els,SV.row]using VRs.nil S,λx hx=>by(cases hx),λ_=>rfl⟩
 |own i off len sz' ver ad cap o ho hv hc hz h =>
  simp only[SV.slen,SV.row,SV.els,ZD]at *;by_cases h0:len*sz=0
  . refine⟨ad,cap,[],rfl,by simp[h0],?_,λx hx j u hj=>by simp at hj,hz⟩;rw[h0]; simpa using VRs.nil S
  . have hne:off<(Qe S.H i ver).length:=by omega
    obtain⟨o',b,us,rest,u,ho',hl',hv',hρ,hh,hvr,_⟩:=hS.read (Vb hne);rw[ho]at ho'; cases ho'
    have hcells:Qe S.H i ver=o.cells:=by
     unfold Qe; rw[ho]; simp[hl',hv']
    rw[hcells]at hl hne ⊢;have h2:=h hv';unfold St.OwnAt at h2;rw[hρ]at h2;have hlen0:len≠0:=λe=>h0 (by simp[e]);have had:ad=some ⟨b,off,none⟩:=by
     rcases h2 with h2|h2
     . omega
     . exact h2.1
    subst had;have hvd:=(hvr.drop off).take (len*sz);refine⟨_,cap,(us.drop off).take (len*sz),rfl,?_,hvd,?_,hz⟩
    . have:=hvr.1; simp; omega
    . intro x hx j u hj
      cases hx
      rw[VD]at hj;split at hj
      . rw[Vr]at hj;have hadd:(⟨b,off,none⟩:Addr).add j=⟨b,off+j,none⟩:=by unfold Addr.add; split<;>simp_all
        rw[hadd];unfold World.cell?;simp only[hh,YQ,VE,Wl];have:off+j<us.length:=Qd hj;simp[Vd this,hj]
      . cases hj
 |val v =>
  have:v=.slice none 0 0:=by cases v<;>simp[SV.isSl]at hs; rename_i a b c; revert hs; cases a<;>cases b<;>cases c<;>simp
  subst this;exact⟨none,0,[],rfl,by simp[SV.slen],by simpa[SV.els,SV.row,SV.slen]using VRs.nil S,λx hx=>by(cases hx),λ_=>rfl⟩
 |_=>simp[SV.isSl]at hs
theorem VRs.oneCells {l:Wt} {us:Wu} (h:VRs S l us) (hc:Qy l):∀ u∈us,u.oneCell'=true:=by
 intro u hu;obtain⟨j,hj⟩:=Vk hu;have hlt:j<l.length:=by rw[<-h.1]; exact Qd hj
 exact(h.2 j _ u (Vb hlt) hj).oneCell (hc _ (Vf hlt))
theorem VRs.unders {l:Wt} {us:Wu} (h:VRs S l us) (hc:Qy l):∀ s∈l,s.under S.H.length=true/\s.isCell=true:=by
 intro s hs;obtain⟨j,hj⟩:=Vk hs;obtain⟨u,_,hv⟩:=h.get hj;exact⟨hv.under,hc s hs⟩
theorem VR.flat {s:SV} {v:Value} (h:VR S s v) (hc:Qy s.flat):∃ us,v.cells=us.toArray/\VRs S s.flat us:=by
 cases h with
 |agg l us hl h=>exact⟨us,rfl,hl,h⟩
 |val v =>
  refine⟨[v],?_,VRs.cons (.val v) (VRs.nil S)⟩;have h1:=hc (.val v) (by simp[SV.flat]);simp only[SV.isCell]at h1
  cases v<;>simp_all [Value.cells,Value.oneCell']
 |any v=>have:=hc .any (by simp[SV.flat]); simp[SV.isCell]at this
 |gd b x v h0 h=>have:=hc (.gd b x) (by simp[SV.flat]); simp[SV.isCell]at this
 |nilslc=>exact⟨[_],rfl,VRs.cons .nilslc (VRs.nil S)⟩
 |slc cells len a cap us hc' hl hi h=>exact⟨[_],rfl,VRs.cons (.slc cells len a cap us hc' hl hi h) (VRs.nil S)⟩
 |own i off len sz ver a cap o ho hv hc' hz h=>exact⟨[_],rfl,VRs.cons (.own i off len sz ver a cap o ho hv hc' hz h) (VRs.nil S)⟩
 |ptrI cells len k a us hl hi h=>exact⟨[_],rfl,VRs.cons (.ptrI cells len k a us hl hi h) (VRs.nil S)⟩
 |ptrO i off len sz ver k a o ho hv h=>exact⟨[_],rfl,VRs.cons (.ptrO i off len sz ver k a o ho hv h) (VRs.nil S)⟩
 |tup l us hl h=>have:=hc (.tup l) (by simp[SV.flat]); simp[SV.isCell]at this
 |fn f x y us vs hl h hl' h'=>exact⟨[_],rfl,VRs.cons (.fn f x y us vs hl h hl' h') (VRs.nil S)⟩
 |ifc t x v h=>exact⟨[_],rfl,VRs.cons (.ifc t x v h) (VRs.nil S)⟩
 |yl i l o ho h=>have:=hc (.yl i) (by simp[SV.flat]); simp[SV.isCell]at this
 |mp i ver l o ho hv h=>exact⟨[_],rfl,VRs.cons (.mp i ver l o ho hv h) (VRs.nil S)⟩
 |mpf vs l es cl us hb hn hu hl h=>exact⟨[_],rfl,VRs.cons (.mpf vs l es cl us hb hn hu hl h) (VRs.nil S)⟩
end
end
section
variable [QK] [QE] [QF]
section
variable {P:Wx} {S:St} {e:Env} {a:Act}
def Eff (P:Wx) (S:St) (a:Act) (o:Oper) (K:SV->Ws->Prop):Prop :=
 ∃ nv S' sv,((execOp a.eval o).run P S.w=.ok (.value nv) S'.w\/((execOp a.eval o).run P S.w=.ok .skip S'.w/\nv=undef)) /\
  Ext S.H.length S S'/\Sim S'/\VR S' sv nv/\K sv S'.H
theorem Qnl (S:St) (cells:Wt) (T:Ww) (us rest:Wu):(S.new cells T 0 us rest).H[S.H.length]? = some ⟨cells,T,0,true⟩:=by simp[St.new]
theorem Qnu (hS:Sim S) {cells:Wt} {T:Ww} {us:Wu} (hv:VRs S cells us) (hc:Qy cells) {o:Oper} {K:SV->Ws->Prop}
 (hrun:(execOp a.eval o).run P S.w=.ok (.value (.pointer (some ⟨S.w.heap.size,0,none⟩))) (S.w.alloc (.cells us.toArray T)))
 (hK:K (.ptr (.own S.H.length 0 0 0 0) 0) (S.H++[⟨cells,T,0,true⟩])):Eff P S a o K:=by
 refine⟨.pointer (some ⟨S.w.heap.size,0,none⟩),S.new cells T 0 us [],_,.inl ?_,Qj1 S hS _ _ _ _ _,Qmb hS T 0 [] hv (hv.unders hc),?_,hK⟩
 . rw[hrun]; simp[St.new]
 . exact .ptrO _ _ _ _ _ _ _ _ (Qnl S cells T us []) (Vc _) λ_=>⟨S.w.heap.size,by simp[St.new,Qap],rfl⟩
theorem Qol (hS:Sim S) {cells:Wt} {T:Ww} {us rest:Wu} {len cap sz:Nat} (hv:VRs S cells us) (hc:Qy cells) {o:Oper} {K:SV->Ws->Prop}
 (hlc:len<=cap) (hsz:cap*sz<=(us++rest).length)
 (hrun:(execOp a.eval o).run P S.w=.ok (.value (.slice (some ⟨S.w.heap.size,0,none⟩) len cap)) (S.w.alloc (.cells (us++rest).toArray T)))
 (hK:K (.own S.H.length 0 len sz 0) (S.H++[⟨cells,T,0,true⟩])):Eff P S a o K:=by
 refine⟨.slice (some ⟨S.w.heap.size,0,none⟩) len cap,S.new cells T 0 us rest,_,.inl ?_,Qj1 S hS _ _ _ _ _,Qmb hS T 0 rest hv (hv.unders hc),?_,hK⟩
 . rw[hrun]; simp[St.new]
 . refine .own _ _ _ _ _ _ _ _ (Qnl S cells T us rest) (Vc _) hlc (λh=>by cases h) λ_ => ?_;simp only[St.OwnAt,St.new,Qap];refine .inr ⟨trivial,T,(us++rest).length,?_,by omega⟩;unfold World.shape?;rw[Qdo];simp
theorem Qkj (hS:Sim S) {cells:Wt} {T:Ww} {us rest:Wu} {i len cap sz:Nat} (ho:S.H[i]? = some ⟨[],T,0,false⟩) (hv:VRs S cells us) (hc:Qy cells) {o:Oper} {K:SV->Ws->Prop}
 (hlc:len<=cap) (hsz:cap*sz<=(us++rest).length)
 (hrun:(execOp a.eval o).run P S.w=.ok (.value (.slice (some ⟨S.w.heap.size,0,none⟩) len cap)) (S.w.alloc (.cells (us++rest).toArray T)))
 (hK:K (.own i 0 len sz 1) (S.H.set i ⟨cells,T,1,true⟩)):Eff P S a o K:=by
 have hmv:=Qh3 hS (i:=i) (o':=⟨cells,T,1,true⟩) (us:=us) rest ho (by simp) rfl hv (hv.unders hc);refine⟨.slice (some ⟨S.w.heap.size,0,none⟩) len cap,S.move i ⟨cells,T,1,true⟩ us rest,_,.inl ?_,Qfj ho (by simp),hmv,?_,hK⟩
 . rw[hrun]; rfl
 . refine .own _ _ _ _ _ _ _ _ (Vh (Qd ho)) (Vc _) hlc (λh=>by cases h) λ_ => ?_;simp only[St.OwnAt,St.move,Qap];refine .inr ⟨trivial,T,(us++rest).length,?_,by omega⟩;unfold World.shape?;rw[Qdo];simp
theorem Qtr (hS:Sim S) {cells:Wt} {T:Ww} {us:Wu} {i:Nat} (ho:S.H[i]? = some ⟨[],T,0,false⟩) (hv:VRs S cells us) (hc:Qy cells) {o:Oper} {K:SV->Ws->Prop}
 (hrun:(execOp a.eval o).run P S.w=.ok (.value (.pointer (some ⟨S.w.heap.size,0,none⟩))) (S.w.alloc (.cells us.toArray T)))
 (hK:K (.ptr (.own i 0 0 0 1) 0) (S.H.set i ⟨cells,T,1,true⟩)):Eff P S a o K:=by
 have hmv:=Qh3 hS (i:=i) (o':=⟨cells,T,1,true⟩) (us:=us) [] ho (by simp) rfl hv (hv.unders hc);refine⟨.pointer (some ⟨S.w.heap.size,0,none⟩),S.move i ⟨cells,T,1,true⟩ us [],_,.inl ?_,Qfj ho (by simp),hmv,?_,hK⟩
 . rw[hrun]; simp[St.move]
 . exact .ptrO _ _ _ _ _ _ _ _ (Vh (Qd ho)) (Vc _) λ_=>⟨S.w.heap.size,by simp[St.move,Qap],rfl⟩
theorem QS {H:Ws} {i:Nat} {o:AO} (h:H[i]? = some o) (f:AO->AO):setObj H i f=H.set i (f o):=by unfold setObj; rw[h]
theorem QkA:∀ {ps:List (Nat×Operand)} {qs:List (Nat×Od)},Qeq ps qs=true->QB S e a.tmps ->
 ps.length=qs.length/\∀ (j:Nat) (p:Nat×Operand) (q:Nat×Od),ps[j]? = some p->qs[j]? = some q->p.1=q.1/\VR S (e.ev q.2) (a.eval p.2)
 |[],[],_,_=>⟨rfl,λj p q h=>by simp at h⟩
 |[],_::_,h,_=>by simp[Qeq]at h
 |_::_,[],h,_=>by simp[Qeq]at h
 | (f,x)::ps,(f',y)::qs,h,he=>by
  simp only[Qeq,Va,Wc]at h;obtain⟨h1,h2⟩:=QkA h.2 he;refine⟨by simp[h1],?_⟩;intro j p q hp hq
  cases j with
  |zero=>simp at hp hq; subst hp hq; exact⟨h.1.1,Qp h.1.2 he⟩
  |succ j=>exact h2 j p q (by simpa using hp) (by simpa using hq)
theorem QrU {z:Wu} (hz:0<z.length) (n j:Nat):(List.replicate n z).flatten[j]? = if j<n*z.length then z[j % z.length]? else none:=by
 induction n generalizing j with
 |zero=>simp
 |succ n ih =>
  rw[YT,ZG,YN];by_cases h:j<z.length
  . rw[Wb h,Wb (by rw[Zk]; omega),YU h]
  . rw[Wa h,ih];have e1:(j-z.length) % z.length=j % z.length:=by
     rw[<-Nat.mod_eq_sub_mod (by omega)]
    have e2:(j-z.length<n*z.length)↔(j<(n+1)*z.length):=by rw[Zk]; omega
    simp only[e1,e2]
theorem QhW {z:Wu} (n:Nat):madeCells z.toArray (n*z.length)=(List.replicate n z).flatten.toArray:=by
 apply Y3;simp only[madeCells,Array.toList_map,Array.toList_range];apply Vz;intro j;by_cases hz:0<z.length
 . rw[QrU hz,Vn];by_cases h:j<n*z.length
   . rw[Wb h,ZC h];have h2:j % z.length<z.length:=Yr _ hz;simp[h2]
   . rw[Wa h,Vq (by simp; omega)]; rfl
 . have hz0:z=[]:=by cases z with|nil=>rfl|cons _ _=>simp at hz
   subst hz0;simp

theorem VRs.zeros {z:Wt} {us:Wu} (h:VRs S z us) (n:Nat):VRs S (List.replicate n z).flatten (List.replicate n us).flatten:=by
 induction n with
 |zero=>simpa using VRs.nil S
 |succ n ih=>rw[YT,YT,ZG,ZG]; exact h.append ih
theorem Qo1 {z:Wt} (h:Qy z) (n:Nat):Qy (List.replicate n z).flatten:=by
 intro s hs;simp only[List.mem_flatten,Y4]at hs;obtain⟨l,⟨_,rfl⟩,hs⟩:=hs;exact h s hs
theorem Qcu {α:Type} (z:List α) (n:Nat):(List.replicate n z).flatten.length=n*z.length:=by simp
end
end
section
variable [QK] [QE] [QF]
section
variable {P:Wx} {S:St} {e:Env} {a:Act}
def E.isCall:E->Bool
 |.call _ _=>true
 |.pan _=>true
 |.calln _ _=>true
 |_=>false
theorem Qaw {H:Ws} {i:Nat} {o:AO} (ho:H[i]? = some o) (hl:o.live=true):Qe H i o.ver=o.cells:=by
 unfold Qe; rw[ho]; simp[hl]
theorem AO.grow_eq {o:AO} (h:o.live=true) (cs:Wt):o.grow cs=⟨o.cells++cs,o.ty,o.ver+1,true⟩:=by cases o; simp[AO.grow]at *; exact h
theorem VR.own_inv {i off n sz ver:Nat} {v:Value} {o:AO} (h:VR S (.own i off n sz ver) v) (ho:S.H[i]? = some o) (hv:o.ver=ver) :
 ∃ ad cap,v=.slice ad n cap/\n<=cap/\(ad=none->n=0)/\S.OwnAt i off n sz ad cap:=by
 cases h with
 |own _ _ _ _ _ ad cap o' ho' hvl hcap hz hat =>
  rw[ho]at ho'; cases ho'
  exact⟨ad,cap,rfl,hcap,hz,hat hv⟩
theorem VR.nil_len {s:SV} {n c:Nat} (h:VR S s (.slice none n c)) (hn:n=s.slen):n=0:=by
 generalize hv:Value.slice none n c=v at h
 cases h with
 |nilslc=>exact hn
 |own i off len sz ver ad cap o ho hv' hc hz hat=>cases hv; exact hz rfl
 |val v=>exact hn
 |any v=>exact hn
 |gd b x v h0 h=>exact hn
 |_=>cases hv
theorem QeV (a:Act) (v:Value):a.eval (.const v)=v:=rfl
theorem Qvv (d:Nat) {t el:Ww} (h:P.underlying t=some (.slice el)) (ad:Wv) (n c:Nat) (w:Wy):(Op.equalIn (d+1) t (.slice none 0 0) (.slice ad n c)).run P w=.ok ad.isNone w:=by
 cases ad<;>simp[Op.equalIn,run_underlying h]
theorem VR.isNil {s:SV} {v:Value} (h:VR S s v) (hs:s.isNil=true):v=.slice none 0 0:=by
 unfold SV.isNil at hs;split at hs
 . cases h; rfl
 . cases hs
theorem QnL (l:Wu) (z:Array Value):l.toArray++z=(l++z.toList).toArray:=by apply Y3; simp
theorem Qpg (z:Array Value) (n:Nat):(Builtin.zeroCells z n).toList.length=n*z.size:=by simp[Builtin.zeroCells]
theorem Qsj (w:Wy) (t tx ty e:Ww) (i:TypeInfo) (ht:P.underlying t=some (.slice e)) (hi:P.info? e=some i)
 (g sLen sCap:Nat) (cur:Array Value) (hg:w.heap[g]? = some (.cells cur e (0,0))) (x:Value) (m:Nat) (news:Wu) (hs:Src P i.size tx x m news w)
 (hroom:sLen+m<=sCap) (hfit:sLen*i.size+news.length<=cur.size) :
 (Builtin.append_ #[t,tx] ty #[.slice (some ⟨g,0,none⟩) sLen sCap,x]).run P w =
  .ok (.slice (some ⟨g,0,none⟩) (sLen+m) sCap) (w.setRow g (cur.toList.take (sLen*i.size)++news++cur.toList.drop (sLen*i.size+news.length)).toArray):=by
 have hst:=run_storeCells_at P g (sLen*i.size) e news 0 cur w hg (by simpa using hfit) hs.one;simp only[Yf]at hst;rcases hs.kind with ⟨e',hk⟩|hk<;>simp[Builtin.append_,run_underlying ht,run_underlying hk,sizeOf,typeInfo,hi,hs.len,hroom,hs.cells,Addr.add_lit,hst]
theorem QkN {sz:Nat} {t T:Ww} (hu:P.underlying t=some (.slice T)) {w:Wy} {adx:Wv} {m capx:Nat} {news:Wu} (hx2:news.length=m*sz)
 (hx4:∀ x,adx=some x->∀ j u,news[j]? = some u->w.cell? (x.add j)=some u) (hx5:adx=none->m=0) (h1:∀ u∈news,u.oneCell'=true):Src P sz t (.slice adx m capx) m news w:=by
 cases adx with
 |none =>
  have h0:=hx5 rfl;subst h0;have:news=[]:=Vx (by rw[hx2]; simp);subst this;exact Src.ofNil w hu capx
 |some a=>exact Src.ofSlice w hu a m capx news hx2 (hx4 a rfl) h1
theorem Qhl (hS:Sim S) {t t2 T ty:Ww} {sz bytes:Nat} (hu:P.underlying t=some (.slice T)) (hinf:Qd6 P T sz bytes=true)
 {i0 n ver:Nat} {ob:AO} (ho:S.H[i0]? = some ob) (hl:ob.live=true) (hver:ob.ver=ver) (hty:ob.ty=T) (hlen:ob.cells.length=n*sz)
 {ads:Wv} {cap:Nat} (hcap:n<=cap) (hz:ads=none->n=0) (h6:S.OwnAt i0 0 n sz ads cap)
 {xv:Value} {m:Nat} {news:Wu} {xs:Wt} (hsr:Src P sz t2 xv m news S.w) (hx3:VRs S xs news) (g5:Qy xs)
 (g6:(n+m)*bytes<=140737488355328) (g7:n+m<=140737488355328) :
 ∃ v' S',(Builtin.append_ #[t,t2] ty #[.slice ads n cap,xv]).run P S.w=.ok v' S'.w/\Ext S.H.length S S'/\Sim S' /\
  VR S' (.own i0 0 (n+m) sz (ver+1)) v'/\S'.H=S.H.set i0 (ob.grow xs):=by
 obtain⟨i,zv,hi,hzv,hsz,hby,hzs⟩:=Qjz hinf;have hsr':Src P i.size t2 xv m news S.w:=by rw[hsz]; exact hsr
 have hx2:=hsr.newsLen;have hone:=hx3.oneCells g5;have hlt:i0<S.H.length:=Qd ho;have hself:∀ q:AO,(S.H.set i0 q)[i0]? = some q:=λq=>Vh hlt;have hgrow:∀ s∈(ob.cells++xs),s.under S.H.length=true/\s.isCell=true:=by
  intro s hs;simp only[Vj]at hs;rcases hs with hs|hs
  . exact hS.belL ho hl s hs
  . exact hx3.unders g5 s hs
 rw[AO.grow_eq hl];unfold St.OwnAt at h6
 cases hρ:S.ρ i0 with
 |none =>
  rw[hρ]at h6;obtain⟨rfl,rfl⟩:=h6;have hcl:ob.cells=[]:=Vx (by simpa using hlen);by_cases hm0:m=0
  . subst hm0;have hxs:xs=[]:=Vx (by rw[<-hx3.1,hx2]; simp);subst hxs;have hn0:news=[]:=Vx (by rw[hx2]; simp);rw[hn0]at hsr';have hr:=run_append_nothing (P:=P) S.w t t2 ty T i hu hi ads 0 0 (Vc _) xv hsr';have hext:Ext S.H.length S ⟨S.ρ,S.H.set i0 ⟨ob.cells++[],ob.ty,ob.ver+1,true⟩,S.w⟩:=by
     refine⟨λj p hj hp => ?_,λk hk hn=>⟨rfl,?_⟩,Vc _,λ_ _ _ h=>h,λ_ r h=>⟨r,h⟩,rfl,rfl,rfl⟩
     . by_cases hij:j=i0
       . subst hij;rw[ho]at hp; cases hp
         exact⟨_,hself _,by simp,λ_=>rfl⟩
       . exact⟨p,by show(S.H.set i0 _)[j]? = _; rw[Ve (by omega)]; exact hp,Vc _,λ_=>rfl⟩
     . rintro⟨j,p,hp,hpl,hpρ⟩;by_cases hij:j=i0
       . simp only at hpρ; rw[hij,hρ]at hpρ; cases hpρ
       . simp only at hp; rw[Ve (by omega)]at hp; exact hn ⟨j,p,hp,hpl,hpρ⟩
    refine⟨.slice ads 0 0,⟨S.ρ,S.H.set i0 ⟨ob.cells++[],ob.ty,ob.ver+1,true⟩,S.w⟩,hr,hext,?_,?_,rfl⟩
    . refine hS.step hext (by simp) ?_ ?_
      . intro j p hp;by_cases hij:j=i0
        . subst hij;simp only[hself]at hp; cases hp
          refine .inr ⟨λ_=>by simp only[hρ]; simp[hcl],λs hs => ?_,λe=>by cases e⟩;exact⟨by simpa using (hgrow s hs).1,λ_=>(hgrow s hs).2⟩
        . exact .inl ⟨by simp only at hp; rw[Ve (by omega)]at hp; exact hp,rfl,λ_ _ _=>rfl⟩
      . intro j k p q b' hj hk hjl hkl hρj hρk;have key:∀ (j:Nat) (p:AO),(S.H.set i0 ⟨ob.cells++[],ob.ty,ob.ver+1,true⟩)[j]? = some p->S.ρ j=some b'->S.H[j]? = some p:=by
         intro j' p' hp' hq';by_cases hij:j'=i0
         . rw[hij,hρ]at hq'; cases hq'
         . rw[Ve (by omega)]at hp'; exact hp'
        exact hS.inj j k p q b' (key j p hj hρj) (key k q hk hρk) hjl hkl hρj hρk
    . refine .own i0 0 0 sz _ ads 0 _ (hself _) (by simp[hver]) (Vc _) (λ_=>rfl) λ_ => ?_;simp[St.OwnAt,hρ]
  . simp only[VX]at g6 g7;have hf0:(Builtin.firstCells i.size 0 (.slice ads 0 0)).run P S.w.drew=.ok (([]:Wu).toArray) S.w.drew:=by cases ads<;>simp[Builtin.firstCells,loadCells,loadCellsFrom]
    have hr:(Builtin.append_ #[t,t2] ty #[.slice ads 0 0,xv]).run P S.w =
     .ok (.slice (some ⟨S.w.heap.size,0,none⟩) m (grownCap S.w m 0 T)) (S.w.drew.alloc (.cells (news.toArray++Builtin.zeroCells zv.cells (grownCap S.w m 0 T-m)) T)):=by
     have:=run_append_grow_src (P:=P) S.w t t2 ty T i zv hu hi hzv ads 0 0 [] hf0 xv m news hsr' (by omega) (by omega) (growslice_fits (by omega) (by rw[hby]; simpa using g6));simp only[VX,V3]at this;exact this
    generalize hg:grownCap S.w m 0 T=gc at hr;have hge:m<=gc:=by rw[<-hg]; exact grownCap_ge _ _ _ _
    have hS':=Qg9 hS (w':=S.w.drew) rfl rfl rfl rfl;have hE':=QfZ (S:=S) (w':=S.w.drew) rfl rfl rfl rfl;have hmv:=Qh3 hS' (i:=i0) (o:=ob) (o':=⟨ob.cells++xs,ob.ty,ob.ver+1,true⟩) (us:=news) (Builtin.zeroCells zv.cells (gc-m)).toList ho (by simp) rfl
     (by simp only[hcl,V3]; exact hx3.ext hE') hgrow
    have hme:=Qfj (S:=⟨S.ρ,S.H,S.w.drew⟩) (i:=i0) (o:=ob) (o':=⟨ob.cells++xs,ob.ty,ob.ver+1,true⟩) (us:=news) (rest:=(Builtin.zeroCells zv.cells (gc-m)).toList) ho (by simp);refine⟨.slice (some ⟨S.w.heap.size,0,none⟩) m gc,_,hr.trans ?_,hE'.trans hme,hmv,?_,rfl⟩
    . rw[QnL,<- hty]; rfl
    . simp only[VX];refine .own i0 0 _ sz _ _ _ _ (hself _) (by simp[hver]) hge (λh=>by cases h) λ_ => ?_;simp only[St.OwnAt,St.move,Qap];refine .inr ⟨rfl,T,(news++(Builtin.zeroCells zv.cells (gc-m)).toList).length,?_,?_⟩
      . unfold World.shape?;have h9:=Qdo S.w.drew (.cells (news++(Builtin.zeroCells zv.cells (gc-m)).toList).toArray ob.ty);simp only[World.size_drew]at h9 ⊢;rw[h9]; simp[hty]
      . simp only[Vt,hx2,Qpg,hzs];rw[<-V0];have:m+(gc-m)=gc:=by omega
        rw[this]; simp
 |some b =>
  have h7:=hS.live i0 ob ho hl;rw[hρ]at h7 h6;obtain⟨us,rest,hh,hvr⟩:=h7;have hblt:b<S.w.heap.size:=hS.lt ⟨i0,ob,ho,AO.own_live hl,hρ⟩;have husl:us.length=n*sz:=by rw[hvr.1,hlen]
  by_cases hroom:n+m<=cap
  . -- there is room
    by_cases hm0:m=0
    . subst hm0;have hxs:xs=[]:=Vx (by rw[<-hx3.1,hx2]; simp);subst hxs;have hn0:news=[]:=Vx (by rw[hx2]; simp);rw[hn0]at hsr';have hr:=run_append_nothing (P:=P) S.w t t2 ty T i hu hi ads n cap hcap xv hsr';obtain⟨hs1,hs2⟩:=QfD hS (cells:=ob.cells++[]) (ver:=ob.ver+1) ho hl hρ (by omega) (us:=us) (rest:=rest) hh (by simp) (by simpa using hvr) hgrow (w':=S.w) (by
       have:S.w.heap.setIfInBounds b (.cells (us++rest).toArray ob.ty (0,0))=S.w.heap:=by
        apply Z5;intro j;rw[YP];by_cases h:b=j
        . subst h; rw[Wb rfl,Wb hblt,hh]
        . rw[Wa h]
       rw[this])
      refine⟨.slice ads n cap,⟨S.ρ,S.H.set i0 ⟨ob.cells++[],ob.ty,ob.ver+1,true⟩,S.w⟩,hr,hs2,hs1,?_,rfl⟩;refine .own i0 0 _ sz _ ads cap _ (hself _) (by simp[hver]) (by omega) (by simpa using hz) λ_ => ?_;simpa[St.OwnAt,hρ]using h6
    . rcases h6 with h6|⟨h6,T',N,h8,h9⟩
      . omega
      subst h6;have hN:N=us.length+rest.length:=by
       unfold World.shape? at h8; rw[hh]at h8; simp at h8; omega
      have hfit:n*sz+m*sz<=us.length+rest.length:=by
       have:(n+m)*sz<=cap*sz:=YC _ hroom;rw[V0]at this; omega
      have hr:=Qsj (P:=P) S.w t t2 ty T i hu hi b n cap (us++rest).toArray (by rw[<-hty]; exact hh) xv m news hsr' hroom
       (by rw[hx2,hsz]; simpa using hfit)
      rw[QiM S.w b _ _ ob.ty (0,0) hh]at hr;have hcells:((us++rest).toArray.toList.take (n*i.size)++news++(us++rest).toArray.toList.drop (n*i.size+news.length))=(us++news)++rest.drop (m*sz):=by
       rw[hsz,<- husl,hx2];simp[Zl]
      rw[hcells]at hr;obtain⟨hs1,hs2⟩:=QfD hS (cells:=ob.cells++xs) (ver:=ob.ver+1) ho hl hρ (by omega) (us:=us++news) (rest:=rest.drop (m*sz)) hh (by simp[hx2]; omega) (hvr.append hx3) hgrow (w':=_) rfl;refine⟨_,_,hr,hs2,hs1,?_,rfl⟩;refine .own i0 0 _ sz _ _ cap _ (hself _) (by simp[hver]) hroom (λh=>by cases h) λ_ => ?_;simp only[St.OwnAt,hρ];exact .inr ⟨trivial,T',N,hs2.shape _ _ _ h8,h9⟩
  . -- a new row
    have hm0:m≠0:=by omega
    have holds:∀ j v,us[j]? = some v->S.w.cell? ((⟨b,0,none⟩:Addr).add j)=some v:=by
     intro j v hj;have hadd:(⟨b,0,none⟩:Addr).add j=⟨b,j,none⟩:=by unfold Addr.add; split<;>simp_all
     rw[hadd];unfold World.cell?;simp only[hh,YQ,VE,Wl];simp[Vd (Qd hj),hj]
    have hr:∃ bb:Addr,(ads=some bb/\∀ j v,us[j]? = some v->S.w.cell? (bb.add j)=some v)\/ads=none:=by
     cases ads with
     |none=>exact⟨default,.inr rfl⟩
     |some bb =>
      refine⟨bb,.inl ⟨rfl,?_⟩⟩;rcases h6 with h6|⟨h6,_⟩
      . have:n=0:=by omega
        subst this;have:us=[]:=Vx (by simpa using husl);subst this;intro j v hj; simp at hj
      . cases h6; exact holds
    have hrun:∃ gc,n+m<=gc/\(Builtin.append_ #[t,t2] ty #[.slice ads n cap,xv]).run P S.w =
     .ok (.slice (some ⟨S.w.heap.size,0,none⟩) (n+m) gc) (S.w.drew.alloc (.cells ((us++news)++(Builtin.zeroCells zv.cells (gc-(n+m))).toList).toArray T)):=by
     have hfc:(Builtin.firstCells i.size n (.slice ads n cap)).run P S.w.drew=.ok us.toArray S.w.drew:=by
      obtain⟨bb,hr|hr⟩:=hr
      . obtain⟨rfl,hol⟩:=hr;exact run_firstCells_some S.w.drew i.size n bb n cap us (by rw[husl,hsz]) (by simpa using hol)
      . subst hr;have:n=0:=hz rfl;subst this;have hus:us=[]:=Vx (by simpa using husl);subst hus;exact run_firstCells_none S.w.drew i.size 0 0 cap
     refine⟨grownCap S.w (n+m) cap T,grownCap_ge _ _ _ _,?_⟩;rw[run_append_grow_src (P:=P) S.w t t2 ty T i zv hu hi hzv ads n cap us hfc xv m news hsr' (by omega) (by omega) (growslice_fits (by omega) (by rw[hby]; exact g6)),QnL]
    obtain⟨gc,hge,hrun⟩:=hrun;have hS':=Qg9 hS (w':=S.w.drew) rfl rfl rfl rfl;have hE':=QfZ (S:=S) (w':=S.w.drew) rfl rfl rfl rfl;have hmv:=Qh3 hS' (i:=i0) (o:=ob) (o':=⟨ob.cells++xs,ob.ty,ob.ver+1,true⟩) (us:=us++news) (Builtin.zeroCells zv.cells (gc-(n+m))).toList ho (by simp) rfl
     ((hvr.append hx3).ext hE') hgrow
    have hme:=Qfj (S:=⟨S.ρ,S.H,S.w.drew⟩) (i:=i0) (o:=ob) (o':=⟨ob.cells++xs,ob.ty,ob.ver+1,true⟩) (us:=us++news) (rest:=(Builtin.zeroCells zv.cells (gc-(n+m))).toList) ho (by simp);refine⟨.slice (some ⟨S.w.heap.size,0,none⟩) (n+m) gc,_,hrun.trans ?_,hE'.trans hme,hmv,?_,rfl⟩
    . simp[St.move,hty]
    . refine .own i0 0 _ sz _ _ _ _ (hself _) (by simp[hver]) hge (λh=>by cases h) λ_ => ?_;simp only[St.OwnAt,St.move,Qap];refine .inr ⟨rfl,T,((us++news)++(Builtin.zeroCells zv.cells (gc-(n+m))).toList).length,?_,?_⟩
      . unfold World.shape?;have h9:=Qdo S.w.drew (.cells ((us++news)++(Builtin.zeroCells zv.cells (gc-(n+m))).toList).toArray ob.ty);simp only[World.size_drew]at h9 ⊢;rw[h9]; simp[hty]
      . simp only[Vt,hx2,husl,Qpg,hzs];rw[<-V0,<- V0];have:n+m+(gc-(n+m))=gc:=by omega
        rw[this]; simp
theorem Qpv (o:Obj):Ext S.H.length S ⟨S.ρ,S.H,S.w.drew.alloc o⟩ where
 obj:=λi p _ h=>⟨p,h,Vc _,λ_=>rfl⟩
 imm:=λk hk hn=>⟨Qcl _ _ hk,hn⟩
 size:=by simp
 shape:=λk T m h=>QfG _ _ h
 loops:=λk r h=>QfJ _ _ h
 os:=rfl
 tape:=rfl
 output:=rfl
theorem QpT (h:Sim S) (o:Obj):Sim ⟨S.ρ,S.H,S.w.drew.alloc o⟩ :=
 h.step (Qpv o) (Vc _) (λi p hp=>.inl ⟨hp,rfl,λb hb hl=>Qcl _ _ (h.lt ⟨i,p,hp,hl,hb⟩)⟩) λi j o o' b hi hj hl hl' h1 h2=>h.inj i j o o' b hi hj hl hl' h1 h2
theorem QvY (hS:Sim S) (s:ByteArray) (cap:Nat) (T:Ww) (f:Nat×Nat) (hc:s.size<=cap):Ext S.H.length S ⟨S.ρ,S.H,S.w.drew.alloc (.cells (bytesRow s cap) T f)⟩/\Sim ⟨S.ρ,S.H,S.w.drew.alloc (.cells (bytesRow s cap) T f)⟩ /\
 VR ⟨S.ρ,S.H,S.w.drew.alloc (.cells (bytesRow s cap) T f)⟩ (.slc (Qbp s) s.size) (.slice (some ⟨S.w.heap.size,0,none⟩) s.size cap):=by
 refine⟨Qpv _,QpT hS _,.slc _ _ _ _ (s.data.toList.map λb=>.int .u8 b.toNat) hc (by simp[Qbp]) ⟨?_,λ_ hrw => ?_,λ_ _=>.inr (by rw[Vy]; intro u hu; obtain⟨b,_,rfl⟩:=Vl.1 hu; rfl)⟩ ?_⟩
 . intro j u hj;rw[Vn,V9]at hj;obtain⟨b,hb,rfl⟩:=hj;have hlt:j<s.data.size:=by have:=Qd hb; simpa using this
   have h1:=bytesRow_at s cap j hlt;have h2:=Qdo S.w.drew (.cells (bytesRow s cap) T f);have hb':s.data[j]=b:=by
    have h3:s.data[j]? = some b:=by simpa using hb
    rw[Yg hlt]at h3; exact Option.some.inj h3
   rw[hb']at h1;have e:((⟨S.w.heap.size,0,none⟩:Addr).add j)=⟨S.w.heap.size,j,none⟩:=by simp[Addr.add]; exact λh=>h.symm
   rw[e];unfold World.cell?;rw[show S.w.drew.heap.size=S.w.heap.size from rfl]at h2;simp only[h2];exact h1
 . obtain⟨i,o,ho,hl,hρ⟩:=hrw;have:S.w.heap.size<S.w.heap.size:=hS.lt ⟨i,o,ho,hl,hρ⟩;omega
 . intro j u v h1 h2;simp only[Qbp,Vn,V9]at h1 h2;obtain⟨b,hb,rfl⟩:=h1;obtain⟨b',hb',rfl⟩:=h2;rw[hb]at hb'; cases hb'
   exact .val _
theorem Qma (hS:Sim S) (he:QB S e a.tmps) {o:Oper} {i:E} (hc:Qav P o.op i=true) (hcall:i.isCall=false) {K:SV->Ws->Prop} (hs:xe i e.ev S.H K) :
 Eff P S a o K:=by
 generalize hop:o.op=op at hc
 cases i with
 |alc T z =>
  simp only[Qav]at hc;split at hc
  . rw[Va,Wc]at hc;obtain⟨rfl,hz⟩:=hc;obtain⟨zv,hrun,hv,hcl⟩:=Qec (S:=S) hz;refine Qnu hS hv (λs h=>(hcl s h).1) ?_ hs;simp[execOp,hop,Instr.alloc,hrun,newVar,newRow]
  . cases hc
 |box T x' =>
  simp only[Qav]at hc;split at hc
  . rw[Va,Wc]at hc;obtain⟨rfl,h1⟩:=hc;obtain⟨g1,g2,g3⟩:=hs;obtain⟨us,h2,h3⟩:=((Qp h1 he).ug g1).flat g2;refine Qnu hS h3 g2 ?_ g3;simp[execOp,hop,Instr.box,newVar,newRow,h2]
  . cases hc
 |bsl T sz len z parts =>
  simp only[Qav]at hc;split at hc
  . rename_i t len' ps;simp only[Va,Wc,Wd]at hc;obtain⟨⟨⟨⟨⟨⟨h1,h2⟩,rfl⟩,h4⟩,h5⟩,h6⟩,h7⟩:=hc;obtain⟨g1,g2,g3⟩:=hs;have hu:=QcL h1;obtain⟨zv,hrun,hv,hcl⟩:=Qec (S:=S) h4;obtain⟨hl,hq⟩:=QkA (e:=e) h7 he;have hzl:zv.cells.toList.length=sz:=by rw[hv.1,h5]
    have hvz:=hv.zeros len';obtain⟨cells,hf,hvf⟩:=Qi6 (S:=S) (λi=>some (i*sz,sz)) (ps.toList.map λp=>(p.1,a.eval p.2)) (parts.map λp=>(p.1*sz,e.ev p.2))
     (List.replicate len' z).flatten (List.replicate len' zv.cells.toList).flatten hvz (by simpa using hl) (by
      intro j p q hpj hqj;rw[Vn]at hpj hqj
      cases hp0:ps.toList[j]? with
      |none=>rw[hp0]at hpj; cases hpj
      |some p0 =>
       cases hq0:parts[j]? with
       |none=>rw[hq0]at hqj; cases hqj
       |some q0 =>
        rw[hp0]at hpj; rw[hq0]at hqj;simp at hpj hqj;subst hpj hqj;obtain⟨k1,k2⟩:=hq j p0 q0 hp0 hq0;obtain⟨k3,k4⟩:=g1 q0 (Vp hq0);exact⟨sz,by simp[k1],k3,by rw[Qcu,h5]; exact k4,k2⟩)
    have hlen:cells.length=len'*sz:=by
     rw[hvf.1];have:∀ (qs:List (Nat×SV)) (z:Wt),(∀ q∈qs,q.1+q.2.ug.flat.length<=z.length)->(Qah z qs).length=z.length:=by
      intro qs
      induction qs with
      |nil=>intro z _; rfl
      |cons q r ih =>
       intro z hz;obtain⟨off,v⟩:=q;have h8:=hz (off,v) (by simp);simp only[Qah];have h9:(z.take off++v.ug.flat++z.drop (off+v.ug.flat.length)).length=z.length:=by simp at h8 ⊢; omega
       rw[ih _ (by intro q hq; rw[h9]; exact hz q (by simp[hq]))];exact h9
     rw[this,Qcu,h5];intro q hq;simp only[Vl]at hq;obtain⟨p,hp,rfl⟩:=hq;obtain⟨k3,k4⟩:=g1 p hp;have k5:(e.ev p.2).ug.flat.length=sz:=by
      unfold Q9 at k3;split at k3
      . rename_i l hl; rw[hl]; exact k3.1
      . rename_i x hx;unfold SV.flat; split
        . rename_i l hl; exact absurd hl (hx l)
        . simp[k3.1]
     rw[Qcu,h5,k5]; exact k4
    refine Qol (rest:=[]) (cap:=len') hS hvf g2 (Vc _) (by simp[hlen]) ?_ g3;simp only[execOp,hop,Instr.buildSlice,Vo,run_underlying hu,Vv,Qci h2];rw[Wa (by omega)];have hzz:(Array.range (len'*sz)).map (λx=>zv.cells[x % zv.cells.size]!)=(List.replicate len' zv.cells.toList).flatten.toArray:=by
     have:=QhW (z:=zv.cells.toList) len';rw[hzl]at this;rw[<-this]; simp[madeCells]
    have e1:(ps.map λx=>(x.1,a.eval x.2)).toList=ps.toList.map λp=>(p.1,a.eval p.2):=by simp
    by_cases h0:len'*sz=0
    . have hz0:(List.replicate len' zv.cells.toList).flatten=[]:=by
       apply Vx; rw[Qcu,hzl]; exact h0
      rw[hz0]at hf;simp only[h0,We,VL,Array.range_zero',Array.map_empty,e1,hf];simp[newRow]
    . simp only[h0,Wl,Vo,hrun,Vv,VL,hzz,e1,hf];simp[newRow]
  . cases hc
 |mks T sz bytes z len cap =>
  simp only[Qav]at hc;split at hc
  . rename_i t l c;simp only[Va,Wc]at hc;obtain⟨⟨⟨⟨⟨h1,h2⟩,h4⟩,h5⟩,h6⟩,h7⟩:=hc;obtain⟨g1,g2,g3,g4,g5,g6,g7⟩:=hs;have hu:=QcL h1;obtain⟨i,zv,hi,hzv,hsz,hby,hzs⟩:=Qjz h2;obtain⟨zv',hrun,hv,hcl⟩:=Qec (S:=S) h4;have e1:zv'=zv:=by
     have:=hrun S.w;simp[zeroValue,typeInfo,hi,hzv]at this;exact this.symm
    subst e1;have hzl:zv'.cells.toList.length=sz:=by rw[hv.1,h5]
    obtain⟨kl,hkl⟩:=(Qp h6 he).isN g1;obtain⟨kc,hkc⟩:=(Qp h7 he).isN g2;have hm:=run_make (P:=P) S.w t T i zv' hu hi hzv kl kc (e.ev len).int (e.ev cap).int g3 g4 (by rw[hby]; omega) (by omega);have hme:madeCells zv'.cells ((e.ev cap).int.toNat*i.size)=((List.replicate (e.ev len).int.toNat zv'.cells.toList).flatten++(List.replicate ((e.ev cap).int.toNat-(e.ev len).int.toNat) zv'.cells.toList).flatten).toArray:=by
     have h8:=QhW (z:=zv'.cells.toList) (e.ev cap).int.toNat;rw[hzl]at h8;rw[hsz];have h9:(e.ev cap).int.toNat=(e.ev len).int.toNat+((e.ev cap).int.toNat-(e.ev len).int.toNat):=by omega
     rw[<-List.flatten_append,List.replicate_append_replicate,<- h9,<- h8]
    refine Qol (cap:=(e.ev cap).int.toNat) (rest:=(List.replicate ((e.ev cap).int.toNat-(e.ev len).int.toNat) zv'.cells.toList).flatten) hS (hv.zeros _) (Qo1 (λs h=>(hcl s h).1) _) (by omega) ?_ ?_ g7
    . rw[Vt,Qcu,Qcu,hzl,<- V0];apply YC; omega
    . rw[<-hme];simp[execOp,hop,hkl,hkc,hm]
  . cases hc
 |app T sz bytes s x =>
  simp only[Qav]at hc;split at hc
  . rename_i as ts;split at hc
    . rename_i s' x' t t' ha ht;simp only[Va,Wc,Wd]at hc;obtain⟨⟨⟨⟨⟨rfl,h1⟩,h2⟩,h3⟩,h4⟩,h5⟩:=hc;obtain⟨g1,g2,g3,g4,g5,g6,g7,g8⟩:=hs;have ha':as = #[s',x']:=by rw[<-ha]
      have ht':ts = #[t,t]:=by rw[<-ht]
      subst ha' ht';obtain⟨adx,capx,news,hx1,hx2,hx3,hx4,hx5⟩:=VR.els hS ((Qp h2 he).ug g2) g3 g4;have hs0:=(Qp h1 he).ug g1;split at g8
      . rename_i i0 n sz' ver hown;rw[hown]at g6 g7 hs0;simp only[SV.slen]at g6 g7;obtain⟨rfl,⟨ob,ho,hl,hver,hty,hlen⟩,hK⟩:=g8;rw[QS ho]at hK;obtain⟨ads,cap,hsv,hcap,hz,hat⟩:=hs0.own_inv ho hver;obtain⟨v',S',hr,hext,hsim,hvr,hH⟩:=Qhl (ty:=o.type) hS (QcL h3) h4 ho hl hver hty hlen hcap hz hat (QkN (capx:=capx) (QcL h3) hx2 hx4 hx5 (hx3.oneCells g5)) hx3 g5 g6 g7;refine⟨v',S',_,.inl ?_,hext,hsim,hvr,?_⟩
        . have h9:(execOp a.eval o).run P S.w=((Builtin.append_ #[t,t] o.type #[.slice ads n cap,.slice adx (e.ev x).ug.slen capx]).run P S.w).andThen λv w'=>.ok (.value v) w':=by
           simp[execOp,hop,resolve,invoke,builtin,hsv,hx1]
          rw[h9,hr]; rfl
        . rw[hH]; exact hK
      . obtain⟨hnil,hK⟩:=g8;have hsv:=hs0.isNil hnil;have hn0:(e.ev s).ug.slen=0:=by
         generalize (e.ev s).ug=w at hnil
         cases w<;>simp[SV.isNil]at hnil<;>rfl
        rw[hn0]at g6 g7;have hap:=Qhl (ty:=o.type) (i0:=S.H.length) (n:=0) (ver:=0) (ob:=⟨[],T,0,true⟩) (ads:=none) (cap:=0) (QfB hS T) (QcL h3) h4 (by simp[St.newNil]) rfl rfl rfl (by simp) (Vc _) (λ_=>rfl)
         (by simp[St.OwnAt,St.newNil,Qap]) (QkN (w:=(S.newNil T).w) (capx:=capx) (QcL h3) hx2 hx4 hx5 (hx3.oneCells g5)) (hx3.ext (QdZ S T)) g5 g6 g7
        obtain⟨v',S',hr,hext,hsim,hvr,hH⟩:=hap;have hl0:S.H.length<=(S.newNil T).H.length:=by simp[St.newNil]
        refine⟨v',S',_,.inl ?_,(QdZ S T).trans (hext.mono hl0),hsim,hvr,?_⟩
        . have h9:(execOp a.eval o).run P S.w=((Builtin.append_ #[t,t] o.type #[.slice none 0 0,.slice adx (e.ev x).ug.slen capx]).run P S.w).andThen λv w'=>.ok (.value v) w':=by
           simp[execOp,hop,resolve,invoke,builtin,hsv,hx1]
          have hr':(Builtin.append_ #[t,t] o.type #[.slice none 0 0,.slice adx (e.ev x).ug.slen capx]).run P S.w=.ok v' S'.w:=hr;rw[h9,hr']; rfl
        . rw[hH];have:(S.newNil T).H.set S.H.length ((⟨[],T,0,true⟩:AO).grow ((e.ev x).ug.els S.H sz))=S.H++[⟨(e.ev x).ug.els S.H sz,T,1,true⟩]:=by
           simp[St.newNil,AO.grow]
          rw[this,VX]; exact hK
    . cases hc
  . cases hc
 |st n p x =>
  simp only[Qav]at hc;split at hc
  . rename_i t p' x';simp only[Va]at hc;obtain⟨⟨h1,h2⟩,h3⟩:=hc;obtain⟨g1,g2,g3,g4,g5,g6⟩:=hs;obtain⟨us,hx1,hx2⟩:=((Qp h2 he).ug g2).flat g3;have hp:=(Qp h1 he).ug g1;split at g6
    . rename_i i0 off l0 s0 ver k hpt;rw[hpt]at hp;obtain⟨g6,hK⟩:=g6;have hk0:off+k<(Qe S.H i0 ver).length:=by omega
      obtain⟨ob,b,us0,rest,u,ho,hl,hver,hρ,hh,hvr,_⟩:=hS.read (Vb hk0);have hob:Qe S.H i0 ver=ob.cells:=by rw[<-hver]; exact Qaw ho hl
      rw[hob]at g6;rw[QS ho]at hK;have husl:us.length=n:=by rw[hx2.1,g4]
      have hus0:us0.length=ob.cells.length:=hvr.1;generalize hpv:a.eval p'=pv at hp
      cases hp with
      |ptrO _ _ _ _ _ _ ad o' ho' hvl hat =>
       rw[ho]at ho'; cases ho'
       obtain⟨b',hb',had⟩:=hat hver;rw[hρ]at hb'; cases hb'
       subst had;have hst:=run_storeCells_at P b (off+k) ob.ty us 0 (us0++rest).toArray S.w hh (by simp; omega) (hx2.oneCells g3);simp only[Yf]at hst;rw[QiM S.w b _ _ ob.ty (0,0) hh]at hst;have hcells:((us0++rest).toArray.toList.take (off+k)++us++(us0++rest).toArray.toList.drop (off+k+us.length))=(us0.take (off+k)++us++us0.drop (off+k+us.length))++rest:=by
        have e1:off+k<=us0.length:=by omega
        have e2:off+k+us.length<=us0.length:=by omega
        simp[YV e1,ZH e2]
       rw[hcells]at hst;have hv':VRs S (ob.cells.take (off+k)++(e.ev x).ug.flat++ob.cells.drop (off+k+(e.ev x).ug.flat.length)) (us0.take (off+k)++us++us0.drop (off+k+us.length)):=by
        have:us.length=(e.ev x).ug.flat.length:=hx2.1;rw[this];exact((hvr.take _).append hx2).append (hvr.drop _)
       have hput:ob.put (off+k) (e.ev x).ug.flat=⟨ob.cells.take (off+k)++(e.ev x).ug.flat++ob.cells.drop (off+k+(e.ev x).ug.flat.length),ob.ty,ob.ver,true⟩:=by
        cases ob; simp[AO.put]at *; exact hl
       rw[hput]at hK;obtain⟨hs1,hs2⟩:=QfD hS (cells:=ob.cells.take (off+k)++(e.ev x).ug.flat++ob.cells.drop (off+k+(e.ev x).ug.flat.length)) (ver:=ob.ver) ho hl hρ (Vc _)
        (us:=us0.take (off+k)++us++us0.drop (off+k+us.length)) (rest:=rest) hh (by simp; omega) hv' (by
         intro s hs;simp only[Vj]at hs;rcases hs with (hs|hs)|hs
         . exact hS.belL ho hl s (V7 hs)
         . exact hx2.unders g3 s hs
         . exact hS.belL ho hl s (YR hs)) (w':=_) rfl
       refine⟨undef,_,_,.inr ⟨?_,rfl⟩,hs2,hs1,.val _,hK⟩;simp only[execOp,hop,hpv,Instr.storeAt,Instr.sureAddr,Vo,VL,Vv,storeVar,Qci h3,hx1];rw[Wa (by simp[husl])];simp only[hst,Vv]
    . exact g6.elim
  . cases hc
 |stw ws n p x =>
  simp only[Qav]at hc;split at hc
  . rename_i t p' x';simp only[Va]at hc;obtain⟨⟨h1,h2⟩,h3⟩:=hc;obtain⟨g1,g2,g3,g4,g5,g6⟩:=hs;obtain⟨us,hx1,hx2⟩:=((Qp h2 he).ug g2).flat g3;have hp:=(Qp h1 he).ug g1;split at g6
    . rename_i i0 off l0 s0 ver k hpt;rw[hpt]at hp;obtain⟨g6,hK⟩:=g6;have hk0:off+k<(Qe S.H i0 ver).length:=by omega
      obtain⟨ob,b,us0,rest,u,ho,hl,hver,hρ,hh,hvr,_⟩:=hS.read (Vb hk0);have hob:Qe S.H i0 ver=ob.cells:=by rw[<-hver]; exact Qaw ho hl
      rw[hob]at g6;rw[QS ho]at hK;have husl:us.length=n:=by rw[hx2.1,g4]
      have hus0:us0.length=ob.cells.length:=hvr.1;generalize hpv:a.eval p'=pv at hp
      cases hp with
      |ptrO _ _ _ _ _ _ ad o' ho' hvl hat =>
       rw[ho]at ho'; cases ho'
       obtain⟨b',hb',had⟩:=hat hver;rw[hρ]at hb'; cases hb'
       subst had;have hst:=run_storeCells_at P b (off+k) ob.ty us 0 (us0++rest).toArray S.w hh (by simp; omega) (hx2.oneCells g3);simp only[Yf]at hst;rw[QiM S.w b _ _ ob.ty (0,0) hh]at hst;have hcells:((us0++rest).toArray.toList.take (off+k)++us++(us0++rest).toArray.toList.drop (off+k+us.length))=(us0.take (off+k)++us++us0.drop (off+k+us.length))++rest:=by
        have e1:off+k<=us0.length:=by omega
        have e2:off+k+us.length<=us0.length:=by omega
        simp[YV e1,ZH e2]
       rw[hcells]at hst;have hv':VRs S (ob.cells.take (off+k)++(e.ev x).ug.flat++ob.cells.drop (off+k+(e.ev x).ug.flat.length)) (us0.take (off+k)++us++us0.drop (off+k+us.length)):=by
        have:us.length=(e.ev x).ug.flat.length:=hx2.1;rw[this];exact((hvr.take _).append hx2).append (hvr.drop _)
       have hput:ob.put (off+k) (e.ev x).ug.flat=⟨ob.cells.take (off+k)++(e.ev x).ug.flat++ob.cells.drop (off+k+(e.ev x).ug.flat.length),ob.ty,ob.ver,true⟩:=by
        cases ob; simp[AO.put]at *; exact hl
       rw[hput]at hK;obtain⟨hs1,hs2⟩:=QfD hS (cells:=ob.cells.take (off+k)++(e.ev x).ug.flat++ob.cells.drop (off+k+(e.ev x).ug.flat.length)) (ver:=ob.ver) ho hl hρ (Vc _)
        (us:=us0.take (off+k)++us++us0.drop (off+k+us.length)) (rest:=rest) hh (by simp; omega) hv' (by
         intro s hs;simp only[Vj]at hs;rcases hs with (hs|hs)|hs
         . exact hS.belL ho hl s (V7 hs)
         . exact hx2.unders g3 s hs
         . exact hS.belL ho hl s (YR hs)) (w':=_) rfl
       refine⟨undef,_,_,.inr ⟨?_,rfl⟩,hs2,hs1,.val _,hK⟩;simp only[execOp,hop,hpv,Instr.storeAt,Instr.sureAddr,Vo,VL,Vv,storeVar,Qci h3,hx1];rw[Wa (by simp[husl])];simp only[hst,Vv]
    . exact g6.elim
  . cases hc
 |nil T sz x =>
  obtain⟨g1,g2,g3⟩:=hs;have hv:∀ (x':Operand),Qm x' x=true->a.eval x'=.slice none 0 0:=by
   intro x' h;exact((Qp h he).ug g1).isNil g2
  have main:(execOp a.eval o).run P S.w=.ok (.value (.slice none 0 0)) S.w:=by
   simp only[Qav]at hc;split at hc
   . simp[execOp,hop,hv _ hc]
   . simp[execOp,hop,hv _ hc]
   . cases hc
  refine⟨_,S.newNil T,_,.inl main,QdZ S T,QfB hS T,?_,g3⟩;refine .own _ 0 0 sz 0 none 0 ⟨[],T,0,true⟩ (by simp[St.newNil]) (Vc _) (Vc _) (λ_=>rfl) λ_ => ?_;simp[St.OwnAt,St.newNil,Qap]
 |flo i0 T sz bytes z len cap =>
  simp only[Qav]at hc;split at hc
  . rename_i t l c;simp only[Va,Wc]at hc;obtain⟨⟨⟨⟨⟨h1,h2⟩,h4⟩,h5⟩,h6⟩,h7⟩:=hc;obtain⟨g1,g2,g3,g4,g5,g6,g8,g7⟩:=hs;have hu:=QcL h1;obtain⟨i,zv,hi,hzv,hsz,hby,hzs⟩:=Qjz h2;obtain⟨zv',hrun,hv,hcl⟩:=Qec (S:=S) h4;have e1:zv'=zv:=by
     have:=hrun S.w;simp[zeroValue,typeInfo,hi,hzv]at this;exact this.symm
    subst e1;have hzl:zv'.cells.toList.length=sz:=by rw[hv.1,h5]
    obtain⟨kl,hkl⟩:=(Qp h6 he).isN g1;obtain⟨kc,hkc⟩:=(Qp h7 he).isN g2;have hm:=run_make (P:=P) S.w t T i zv' hu hi hzv kl kc (e.ev len).int (e.ev cap).int g3 g4 (by rw[hby]; omega) (by omega);have hme:madeCells zv'.cells ((e.ev cap).int.toNat*i.size)=((List.replicate (e.ev len).int.toNat zv'.cells.toList).flatten++(List.replicate ((e.ev cap).int.toNat-(e.ev len).int.toNat) zv'.cells.toList).flatten).toArray:=by
     have h8:=QhW (z:=zv'.cells.toList) (e.ev cap).int.toNat;rw[hzl]at h8;rw[hsz];have h9:(e.ev cap).int.toNat=(e.ev len).int.toNat+((e.ev cap).int.toNat-(e.ev len).int.toNat):=by omega
     rw[<-List.flatten_append,List.replicate_append_replicate,<- h9,<- h8]
    refine Qkj (cap:=(e.ev cap).int.toNat) (rest:=(List.replicate ((e.ev cap).int.toNat-(e.ev len).int.toNat) zv'.cells.toList).flatten) hS g8 (hv.zeros _) (Qo1 (λs h=>(hcl s h).1) _) (by omega) ?_ ?_ g7
    . rw[Vt,Qcu,Qcu,hzl,<- V0];apply YC; omega
    . rw[<-hme];simp[execOp,hop,hkl,hkc,hm]
  . cases hc
 |fle i0 T sz =>
  simp only[Qav]at hc;split at hc
  . rename_i t len' ps;simp only[Va,Wc]at hc;obtain⟨⟨⟨h1,h2⟩,rfl⟩,h3⟩:=hc;obtain⟨g1,g2⟩:=hs;have hu:=QcL h1;have hps:ps = #[]:=by simpa using h3
    subst hps;refine Qkj (us:=[]) (rest:=[]) (cap:=0) hS g1 (VRs.nil S) (λs hs=>by simp at hs) (Vc _) (by simp) ?_ g2;simp only[execOp,hop,Instr.buildSlice,Vo,run_underlying hu,Vv,Qci h2];simp[newRow,Array.range_zero',Instr.fill]
  . cases hc
 |fla i0 T z =>
  simp only[Qav]at hc;split at hc
  . rw[Va,Wc]at hc;obtain⟨rfl,hz⟩:=hc;obtain⟨zv,hrun,hv,hcl⟩:=Qec (S:=S) hz;refine Qtr hS hs.1 hv (λs h=>(hcl s h).1) ?_ hs.2;simp[execOp,hop,Instr.alloc,hrun,newVar,newRow]
  . cases hc
 |flb i0 T sz len z parts =>
  simp only[Qav]at hc;split at hc
  . rename_i t len' ps;simp only[Va,Wc,Wd]at hc;obtain⟨⟨⟨⟨⟨⟨h1,h2⟩,rfl⟩,h4⟩,h5⟩,h6⟩,h7⟩:=hc;obtain⟨g1,g2,g4,g3⟩:=hs;have hu:=QcL h1;obtain⟨zv,hrun,hv,hcl⟩:=Qec (S:=S) h4;obtain⟨hl,hq⟩:=QkA (e:=e) h7 he;have hzl:zv.cells.toList.length=sz:=by rw[hv.1,h5]
    have hvz:=hv.zeros len';obtain⟨cells,hf,hvf⟩:=Qi6 (S:=S) (λi=>some (i*sz,sz)) (ps.toList.map λp=>(p.1,a.eval p.2)) (parts.map λp=>(p.1*sz,e.ev p.2))
     (List.replicate len' z).flatten (List.replicate len' zv.cells.toList).flatten hvz (by simpa using hl) (by
      intro j p q hpj hqj;rw[Vn]at hpj hqj
      cases hp0:ps.toList[j]? with
      |none=>rw[hp0]at hpj; cases hpj
      |some p0 =>
       cases hq0:parts[j]? with
       |none=>rw[hq0]at hqj; cases hqj
       |some q0 =>
        rw[hp0]at hpj; rw[hq0]at hqj;simp at hpj hqj;subst hpj hqj;obtain⟨k1,k2⟩:=hq j p0 q0 hp0 hq0;obtain⟨k3,k4⟩:=g1 q0 (Vp hq0);exact⟨sz,by simp[k1],k3,by rw[Qcu,h5]; exact k4,k2⟩)
    have hlen:cells.length=len'*sz:=by
     rw[hvf.1];have:∀ (qs:List (Nat×SV)) (z:Wt),(∀ q∈qs,q.1+q.2.ug.flat.length<=z.length)->(Qah z qs).length=z.length:=by
      intro qs
      induction qs with
      |nil=>intro z _; rfl
      |cons q r ih =>
       intro z hz;obtain⟨off,v⟩:=q;have h8:=hz (off,v) (by simp);simp only[Qah];have h9:(z.take off++v.ug.flat++z.drop (off+v.ug.flat.length)).length=z.length:=by simp at h8 ⊢; omega
       rw[ih _ (by intro q hq; rw[h9]; exact hz q (by simp[hq]))];exact h9
     rw[this,Qcu,h5];intro q hq;simp only[Vl]at hq;obtain⟨p,hp,rfl⟩:=hq;obtain⟨k3,k4⟩:=g1 p hp;have k5:(e.ev p.2).ug.flat.length=sz:=by
      unfold Q9 at k3;split at k3
      . rename_i l hl; rw[hl]; exact k3.1
      . rename_i x hx;unfold SV.flat; split
        . rename_i l hl; exact absurd hl (hx l)
        . simp[k3.1]
     rw[Qcu,h5,k5]; exact k4
    refine Qkj (rest:=[]) (cap:=len') hS g4 hvf g2 (Vc _) (by have:=hvf.1; simp; omega) ?_ g3;simp only[execOp,hop,Instr.buildSlice,Vo,run_underlying hu,Vv,Qci h2];rw[Wa (by omega)];have hzz:(Array.range (len'*sz)).map (λx=>zv.cells[x % zv.cells.size]!)=(List.replicate len' zv.cells.toList).flatten.toArray:=by
     have:=QhW (z:=zv.cells.toList) len';rw[hzl]at this;rw[<-this]; simp[madeCells]
    have e1:(ps.map λx=>(x.1,a.eval x.2)).toList=ps.toList.map λp=>(p.1,a.eval p.2):=by simp
    by_cases h0:len'*sz=0
    . have hz0:(List.replicate len' zv.cells.toList).flatten=[]:=by
       apply Vx; rw[Qcu,hzl]; exact h0
      rw[hz0]at hf;simp only[h0,We,VL,Array.range_zero',Array.map_empty,e1,hf];simp[newRow]
    . simp only[h0,Wl,Vo,hrun,Vv,VL,hzz,e1,hf];simp[newRow]
  . cases hc
 |aps T s x =>
  simp only[Qav]at hc;split at hc
  . rename_i as ts;split at hc
    . rename_i s' x' t t' ha ht;simp only[Va]at hc;obtain⟨⟨⟨⟨h1,h2⟩,h3⟩,h4⟩,h5⟩:=hc;split at h5
      . rename_i ht2;obtain⟨g1,g2,g3,g8⟩:=hs;have ha':as = #[s',x']:=by rw[<-ha]
        have ht':ts = #[t,t']:=by rw[<-ht]
        subst ha' ht';have hx1:=(Qp h2 he).isS g2;have hs0:=(Qp h1 he).ug g1;have hsrc:∀ w,Src P 1 t' (.string (e.ev x).str) (e.ev x).str.size (byteCells (e.ev x).str) w:=λw=>Src.ofString w ht2 _;have hx3:∀ S:St,VRs S (Qbp (e.ev x).str) (byteCells (e.ev x).str):=λS=>by
         refine⟨by simp[Qbp,byteCells],λj a b h6 h7 => ?_⟩;simp only[Qbp,byteCells,Vn,V9]at h6 h7;obtain⟨c,h6,rfl⟩:=h6;obtain⟨d,h7,rfl⟩:=h7;rw[h6]at h7; cases h7
         exact .val _
        have g5:Qy (Qbp (e.ev x).str):=by
         intro c hc;simp only[Qbp,Vl]at hc;obtain⟨b,_,rfl⟩:=hc;rfl
        split at g8
        . rename_i i0 n sz' ver hown;rw[hown]at g3 hs0;simp only[SV.slen]at g3;obtain⟨rfl,⟨ob,ho,hl,hver,hty,hlen⟩,hK⟩:=g8;rw[QS ho]at hK;obtain⟨ads,cap,hsv,hcap,hz,hat⟩:=hs0.own_inv ho hver;obtain⟨v',S',hr,hext,hsim,hvr,hH⟩:=Qhl (ty:=o.type) hS (QcL h3) h4 ho hl hver hty hlen hcap hz hat (hsrc _) (hx3 S) g5 (by omega) g3;refine⟨v',S',_,.inl ?_,hext,hsim,hvr,?_⟩
          . have h9:(execOp a.eval o).run P S.w=((Builtin.append_ #[t,t'] o.type #[.slice ads n cap,.string (e.ev x).str]).run P S.w).andThen λv w'=>.ok (.value v) w':=by
             simp[execOp,hop,resolve,invoke,builtin,hsv,hx1]
            rw[h9,hr]; rfl
          . rw[hH]; exact hK
        . obtain⟨hnil,hK⟩:=g8;have hsv:=hs0.isNil hnil;have hn0:(e.ev s).ug.slen=0:=by
           generalize (e.ev s).ug=w at hnil
           cases w<;>simp[SV.isNil]at hnil<;>rfl
          rw[hn0]at g3;have hap:=Qhl (ty:=o.type) (i0:=S.H.length) (n:=0) (ver:=0) (ob:=⟨[],T,0,true⟩) (ads:=none) (cap:=0) (QfB hS T) (QcL h3) h4 (by simp[St.newNil]) rfl rfl rfl (by simp) (Vc _) (λ_=>rfl)
           (by simp[St.OwnAt,St.newNil,Qap]) (hsrc _) (hx3 _) g5 (by omega) g3
          obtain⟨v',S',hr,hext,hsim,hvr,hH⟩:=hap;have hl0:S.H.length<=(S.newNil T).H.length:=by simp[St.newNil]
          refine⟨v',S',_,.inl ?_,(QdZ S T).trans (hext.mono hl0),hsim,hvr,?_⟩
          . have h9:(execOp a.eval o).run P S.w=((Builtin.append_ #[t,t'] o.type #[.slice none 0 0,.string (e.ev x).str]).run P S.w).andThen λv w'=>.ok (.value v) w':=by
             simp[execOp,hop,resolve,invoke,builtin,hsv,hx1]
            have hr':(Builtin.append_ #[t,t'] o.type #[.slice none 0 0,.string (e.ev x).str]).run P S.w=.ok v' S'.w:=hr;rw[h9,hr']; rfl
          . rw[hH];have:(S.newNil T).H.set S.H.length ((⟨[],T,0,true⟩:AO).grow (Qbp (e.ev x).str))=S.H++[⟨Qbp (e.ev x).str,T,1,true⟩]:=by
             simp[St.newNil,AO.grow]
            rw[this,VX]; exact hK
      . cases h5
    . cases hc
  . cases hc
 |sby x =>
  obtain⟨g1,g2⟩:=hs;simp only[Qav]at hc;split at hc
  . rename_i src dst x';rw[Va,Va]at hc;obtain⟨⟨h1,h2⟩,h3⟩:=hc;split at h2
    . rename_i hu;split at h3
      . rename_i el hd;split at h3
        . rename_i hel;have hv:=(Qp h1 he).isS g1;have hrun:=run_bytes_of_string (P:=P) S.w src dst el (e.ev x).str hu hd hel;obtain⟨he1,hs1,hv1⟩:=QvY hS (e.ev x).str (grownCap S.w (e.ev x).str.size 0 el) el ((bytesRow (e.ev x).str (grownCap S.w (e.ev x).str.size 0 el)).size,(bytesRow (e.ev x).str (grownCap S.w (e.ev x).str.size 0 el)).size+1) (grownCap_ge _ _ _ _);refine⟨_,⟨S.ρ,S.H,_⟩,_,.inl ?_,he1,hs1,hv1,g2⟩;simp[execOp,hop,hv,hrun]
        . cases h3
      . cases h3
    . cases h2
  . cases hc
 |snil neg right x =>
  obtain⟨g1,g2,g3,g4⟩:=hs;simp only[Qav]at hc;split at hc
  . rename_i op2 t x' y' yt;rw[Va,Va,Va]at hc;obtain⟨⟨⟨h1,h2⟩,h3⟩,h4⟩:=hc;split at h4
    . rename_i el hu;have main:∀ (ad:Wv) (n cap:Nat),(a.eval (if right then x' else y'))=.slice ad n cap ->
       (execOp a.eval o).run P S.w=.ok (.value (.bool (if neg then !ad.isNone else ad.isNone))) S.w:=by
       intro ad n cap hv;have r1:=run_equal_slice_nil (P:=P) S.w t el ad n cap hu;have r2:(Op.equal t (.slice none 0 0) (.slice ad n cap)).run P S.w=.ok ad.isNone S.w:=Qvv 9999 hu ad n cap S.w
       cases right with
       |true =>
        simp only[We]at h3 hv;split at h3
        . cases neg with
          |true=>simp at h1; subst h1; simp[execOp,hop,hv,QeV,eqGuard,binOp,r1]
          |false=>simp at h1; subst h1; simp[execOp,hop,hv,QeV,eqGuard,binOp,r1]
        . cases h3
       |false =>
        simp only[VE,Wl]at h3 hv;split at h3
        . cases neg with
          |true=>simp at h1; subst h1; simp[execOp,hop,hv,QeV,eqGuard,binOp,r2]
          |false=>simp at h1; subst h1; simp[execOp,hop,hv,QeV,eqGuard,binOp,r2]
        . cases h3
      have hx:=(Qp h2 he).ug g1;obtain⟨ad,cap,hv⟩:=hx.slen_spec g2;have hrun:=main ad _ cap hv;rw[hv]at hx
      cases ad with
      |none =>
       have h0:(e.ev x).ug.slen=0:=by
        obtain⟨nn,hnn⟩:∃ nn,nn=(e.ev x).ug.slen:=⟨_,rfl⟩;rw[<-hnn]at hx ⊢;exact hx.nil_len hnn
       have g5:=(g4 h0).2;refine⟨_,S,_,.inl hrun,Ext.refl _ S,hS,.val _,?_⟩
       cases neg<;>simpa[bl]using g5
      |some ad =>
       have g5:K (bl neg) S.H:=by
        by_cases h0:(e.ev x).ug.slen=0
        . exact(g4 h0).1
        . exact g3 h0
       refine⟨_,S,_,.inl hrun,Ext.refl _ S,hS,.val _,?_⟩
       cases neg<;>simpa[bl]using g5
    . cases h4
  . cases hc
 |cpy sz d s =>
  simp only[Qav]at hc;split at hc
  . rename_i as ts;split at hc
    . rename_i d' s' t t' ha ht;simp only[Va,Wc]at hc;obtain⟨⟨⟨⟨rfl,h1⟩,h2⟩,rfl⟩,h3⟩:=hc;obtain⟨g1,g2,g3,g4,g5,g6⟩:=hs;have ha':as = #[d',s']:=by rw[<-ha]
      have ht':ts = #[t,t]:=by rw[<-ht]
      subst ha' ht';obtain⟨adx,capx,news,hx1,hx2,hx3,hx4,hx5⟩:=VR.els hS ((Qp h2 he).ug g2) g3 g4;have hs0:=(Qp h1 he).ug g1;split at h3
      . rename_i el hu;split at h3
        . rename_i inf hi;rw[Wc]at h3;split at g6
          . rename_i i0 off n sz' ver hown;rw[hown]at hs0;obtain⟨p0,pn,pl,hK⟩:=g6;have hk0:off<(Qe S.H i0 ver).length:=by omega
            obtain⟨ob,b,us0,rest,u,ho,hl,hver,hρ,hh,hvr,_⟩:=hS.read (Vb hk0);have hob:Qe S.H i0 ver=ob.cells:=by rw[<-hver]; exact Qaw ho hl
            rw[hob]at pl;rw[QS ho]at hK;obtain⟨ads,cap,hsv,hcap,hz,hat⟩:=hs0.own_inv ho hver;unfold St.OwnAt at hat;rw[hρ]at hat;have hads:ads=some ⟨b,off,none⟩:=by
             rcases hat with h|h
             . omega
             . exact h.1
            subst hads;have hus0:us0.length=ob.cells.length:=hvr.1;have hnl:news.length=n:=by rw[hx2,pn,Ye]
            have hst:=run_storeCells_at P b off ob.ty news 0 (us0++rest).toArray S.w hh (by simp; omega) (hx3.oneCells g5);simp only[Yf]at hst;rw[QiM S.w b _ _ ob.ty (0,0) hh]at hst;have hcells:((us0++rest).toArray.toList.take off++news++(us0++rest).toArray.toList.drop (off+news.length))=(us0.take off++news++us0.drop (off+news.length))++rest:=by
             have e1:off<=us0.length:=by omega
             have e2:off+news.length<=us0.length:=by omega
             simp[YV e1,ZH e2]
            rw[hcells]at hst;obtain⟨w1,hw1⟩:∃ w1:Wy,w1={ S.w with heap:=S.w.heap.setIfInBounds b (Obj.cells ((us0.take off++news++us0.drop (off+news.length))++rest).toArray ob.ty (0,0)) }:=⟨_,rfl⟩;rw[<-hw1]at hst;have hel:((e.ev s).ug.els S.H 1).length=news.length:=hx3.1.symm;have hv':VRs S (ob.cells.take off++(e.ev s).ug.els S.H 1++ob.cells.drop (off+((e.ev s).ug.els S.H 1).length)) (us0.take off++news++us0.drop (off+news.length)):=by
             rw[hel];exact((hvr.take _).append hx3).append (hvr.drop _)
            have hput:ob.put off ((e.ev s).ug.els S.H 1)=⟨ob.cells.take off++(e.ev s).ug.els S.H 1++ob.cells.drop (off+((e.ev s).ug.els S.H 1).length),ob.ty,ob.ver,true⟩:=by
             cases ob; simp[AO.put]at *; exact hl
            rw[hput]at hK;obtain⟨hs1,hs2⟩:=QfD hS (cells:=ob.cells.take off++(e.ev s).ug.els S.H 1++ob.cells.drop (off+((e.ev s).ug.els S.H 1).length)) (ver:=ob.ver) ho hl hρ (Vc _)
             (us:=us0.take off++news++us0.drop (off+news.length)) (rest:=rest) hh (by simp; omega) hv' (by
              intro s hs;simp only[Vj]at hs;rcases hs with (hs|hs)|hs
              . exact hS.belL ho hl s (V7 hs)
              . exact hx3.unders g5 s hs
              . exact hS.belL ho hl s (YR hs)) (w':=w1) hw1
            have hsrc:=QkN (w:=S.w) (capx:=capx) hu hx2 hx4 hx5 (hx3.oneCells g5);have hmin:Nat.min (e.ev s).ug.slen n=n:=by rw[pn]; exact Nat.min_self _
            have hlen:=hsrc.len;have hce:=hsrc.cells;rw[<-pn]at hx1 hce;refine⟨goInt n,_,_,.inl ?_,hs2,hs1,.val _,hK⟩;have h9:(execOp a.eval o).run P S.w=((Builtin.copy_ #[t,t] o.type #[.slice (some ⟨b,off,none⟩) n cap,.slice adx n capx]).run P S.w).andThen λv w'=>.ok (.value v) w':=by
             simp[execOp,hop,resolve,invoke,builtin,hsv,hx1]
            have hr:(Builtin.copy_ #[t,t] o.type #[.slice (some ⟨b,off,none⟩) n cap,.slice adx n capx]).run P S.w=.ok (goInt n) w1:=by
             simp[Builtin.copy_,run_underlying hu,Builtin.lenOf,sizeOf,typeInfo,hi,h3,hce,hst,Nat.min_self]
            rw[h9,hr]; rfl
          . exact g6.elim
        . cases h3
      . cases h3
    . cases hc
  . cases hc
 |call f args=>cases hcall
 |pan x=>cases hcall
 |calln f args=>cases hcall
 |mkm T =>
  simp only[Qav]at hc;have hrun:(execOp a.eval o).run P S.w=.ok (.value (.map (some S.w.heap.size))) (S.w.alloc (.map #[] 0)):=by
   split at hc
   . simp[execOp,hop,Instr.makeMap,Result.andThen]
   . rename_i T' k n;rw[Va,Wc]at hc;obtain⟨rfl,h2⟩:=hc;split at h2
     . rename_i kt et hu;simp[execOp,hop,Instr.makeMap,run_underlying hu,asInt,asIntOf,Result.andThen,QeV]
     . cases h2
   . cases hc
  refine⟨.map (some S.w.heap.size),S.newSp (.map #[] 0) ⟨[.mk []],T,0,false⟩,.mp S.H.length 0,.inl ?_,QlN _ _,Qml hS (m:=.mk []) (us:=[]) ⟨rfl,rfl⟩ (VRs.nil S),?_,hs⟩
  . rw[hrun]; rfl
  . exact .mp _ _ _ _ (by simp[St.newSp]; rfl) (Vc _) λ_=>by simp only[St.newSp,Qap]
 |mup kk m' k' v' =>
  simp only[Qav]at hc;have hop2:∃ t m k v,(op=.mapUpdate t m k v\/op=.insert t m k v)/\Qm m m'=true/\Qm k k'=true/\Qm v v'=true/\QiH P t kk=true:=by
   split at hc
   . rename_i t m k v;simp only[Va]at hc;exact⟨t,m,k,v,.inl rfl,hc.1.1.1,hc.1.1.2,hc.1.2,hc.2⟩
   . rename_i t m k v;simp only[Va]at hc;exact⟨t,m,k,v,.inr rfl,hc.1.1.1,hc.1.1.2,hc.1.2,hc.2⟩
   . cases hc
  obtain⟨t,m,k,v,hopv,h1,h2,h3,h4⟩:=hop2;obtain⟨kt,et,hu,hk,hzz⟩:=QtP h4;obtain⟨g1,g2,g3,g4⟩:=hs;have k1:=(Qp h1 he).ug g1;obtain⟨k2,k3⟩:=(Qp h2 he).isK g2;have k4:=(Qp h3 he).ug g3;split at g4
  . rename_i i ver x hmp hmo;obtain⟨g5,g7,g6⟩:=g4;rw[hmp]at k1 hmo;generalize hmv:a.eval m=mv at k1
    cases k1 with
    |mp _ _ l o' ho hv hat =>
    simp only[SV.mapOf,ho]at hmo;split at hmo
    . rename_i hcond;split at hmo
      . rename_i ks vs hcells
        cases hmo
        have hoe:o'=⟨.mk ks::vs,o'.ty,o'.ver,false⟩:=by
         obtain⟨c,ty,vv,lv⟩:=o';simp only at hcells hcond ⊢;rw[hcells,hcond.1]
        have ho2:S.H[i]? = some ⟨.mk ks::vs,o'.ty,o'.ver,false⟩:=by rw[ho]; congr 1
        obtain⟨l',es,cl,q1,q2,q3,q4⟩:=hS.map ho2;rw[hat hcond.2]at q1; cases q1
        have hρ:=hat hcond.2;subst q3;have hck:=QoI (P:=P) (w:=S.w) hk hzz k3 false;rw[<-k2]at g7;have key:∃ x',(Instr.mapUpdate t (.map (some l)) (a.eval k) (a.eval v)).run P S.w=.ok () (S.w.putObj l x')/\(∃ es2 cl2,x'=Obj.map es2 cl2) /\
         ∃ us,SpR (.mk (QbN (a.eval k) (es.toList.map (·.key)))) x' us/\VRs S (QbR (a.eval k) (e.ev v').ug (es.toList.map (·.key)) vs) us:=by
         rcases Qr8 hk hzz hS k3 k4 g5 g7 q4 with ⟨r1,r2,r3⟩|⟨j,en,r1,r2,r3,r4,r5⟩
         . refine⟨.map (es.push ⟨a.eval k,a.eval v,cl⟩) (cl+1),?_,⟨_,_,rfl⟩,_,⟨?_,rfl⟩,?_⟩
           . have hfk:=r1;simp[Instr.mapUpdate,run_underlying hu,Go.MapKept.run_getObj_map q2,hck,hfk,Go.MapKept.run_setObj_map _ q2,Result.andThen,World.putObj]
           . rw[r2]; simp
           . simpa using r3
         . have hfk:=r1;have hj:es[j]? = some en:=by simpa using r2
           have hjl:j<es.size:=(VU.1 hj).1;refine⟨.map (es.modify j λe=>{ e with key:=a.eval k,val:=a.eval v }) cl,?_,⟨_,_,rfl⟩,_,⟨?_,rfl⟩,?_⟩
           . have hks:=Qqi (P:=P) (w:=S.w) k3;simp[Instr.mapUpdate,run_underlying hu,Go.MapKept.run_getObj_map q2,hck,hfk,hj,r3,hks,Go.MapKept.run_setObj_map _ q2,Result.andThen,World.putObj]
           . rw[r4];apply Vz;intro n;simp only[Vn,ZI,Z6];by_cases hn:j=n
             . subst hn; rw[Wb rfl,hj]; simp[r3]
             . rw[Wa hn]
           . have e1:(es.modify j λe=>{ e with key:=a.eval k,val:=a.eval v }).toList.map (·.val)=(es.toList.map (·.val)).set j (a.eval v):=by
              apply Vz;intro n;simp only[Vn,ZI,Z6,YY];by_cases hn:j=n
              . subst hn; simp[hjl]
              . rw[Wa hn,Wa hn]
             rw[e1]; exact r5
        obtain⟨x',hrun,hx',us,hsp,hvs⟩:=key;have hne:(⟨.mk (es.toList.map (·.key))::vs,o'.ty,o'.ver,false⟩:AO).cells≠[]:=by simp
        obtain⟨he1,he2⟩:=Qnx hS ho2 rfl hne hρ q2 (.inr ⟨es,cl,rfl⟩) (λr h=>by cases h) (o':=⟨.mk (QbN (a.eval k) (es.toList.map (·.key)))::QbR (a.eval k) (e.ev v').ug (es.toList.map (·.key)) vs,o'.ty,o'.ver,false⟩) rfl (Vc _)
         (.inr ⟨_,us,_,rfl,hsp,hvs⟩)
        refine⟨undef,_,.val undef,.inr ⟨?_,rfl⟩,he1,he2,.val _,?_⟩
        . rcases hopv with rfl|rfl<;>simp[execOp,hop,hmv,hrun]
        . rw[QS ho]at g6;rw[<-k2]at g6;have e3:({ o' with cells:=.mk (QbN (a.eval k) (es.toList.map (·.key)))::QbR (a.eval k) (e.ev v').ug (es.toList.map (·.key)) vs }:AO)=⟨.mk (QbN (a.eval k) (es.toList.map (·.key)))::QbR (a.eval k) (e.ev v').ug (es.toList.map (·.key)) vs,o'.ty,o'.ver,false⟩:=by
           rw[hoe]
          rw[e3]at g6;exact g6
      . cases hmo
    . cases hmo
  . exact g4.elim
end
end
def Fr (ro:Option Nat):Fence:={ fn:=λ_=>True,depth:=none,alive:=false,round:=ro }
theorem QeO (ro:Option Nat) (n:Nat):(Fr ro).room n:=λ_ h=>by simp[Fr]at h
theorem QhS {ro:Option Nat} {n:Nat}:(Fr ro).depth.isSome=true->1<=n:=λh=>by simp[Fr]at h
def _root_.Go.Code.wq (ro:Option Nat) (P:Wx) (c:Code) (Q:Exit->Act->Wy->Prop) (a:Act) (w:Wy):Prop:=c.wpIn (Fr ro) 0 P Q a w
def _root_.Go.Oper.wq (P:Wx) (o:Oper) (a:Act) (w:Wy) (next:Act->Wy->Prop) (Q:Exit->Act->Wy->Prop):Prop :=
 o.uponIn (Fr none) 0 P a next Q ((execOp a.eval o).run P w)
def Qbl (P:Wx) (ops:Array Oper) (Q:Exit->Act->Wy->Prop) (i:Nat) (K:Act->Wy->Prop) (a:Act) (w:Wy):Prop :=
 match ops[i]? with
 |none=>K a w
 |some o=>if Region.wanted o (yielded ops a.tmps)then o.wq P a w K Q else K (a.put o.dst undef) w
def QdB (P:Wx) (ops:Array Oper) (Q:Exit->Act->Wy->Prop):List Nat->Act->Wy->Prop
 |[],a,w=>Q .normal a w
 |i::rest,a,w=>Qbl P ops Q i (QdB P ops Q rest) a w
def QcA (P:Wx) (ops:Array Oper) (Q:Exit->Act->Wy->Prop):List Oper->Act->Wy->Prop
 |[],a,w=>Q .normal a w
 |o::rest,a,w=>if Region.wanted o (yielded ops a.tmps)then o.wq P a w (QcA P ops Q rest) Q else QcA P ops Q rest (a.put o.dst undef) w
def Qbh (P:Wx) (md:Region.Mode) (ops:Array Oper) (Q:Exit->Act->Wy->Prop):Nat->Array Bool->Act->Wy->Prop
 |0,listed,a,w=>Region.ready md ops listed=[]/\Q .normal a w
 |fuel+1,listed,a,w =>
  (Region.ready md ops listed=[]->Q .normal a w) /\
  ∀ i∈Region.ready md ops listed,Qbl P ops Q i (Qbh P md ops Q fuel (listed.setIfInBounds i true)) a w
section
variable {P:Wx} {ops:Array Oper} {Q:Exit->Act->Wy->Prop} {md:Region.Mode}
theorem _root_.Go.Oper.wq_mono {o:Oper} {a:Act} {w:Wy} {K K':Act->Wy->Prop} {Q Q':Exit->Act->Wy->Prop} (h:∀ a w,K a w->K' a w) (hq:∀ e a w,e≠.normal->Q e a w->Q' e a w)
 (hh:o.wq P a w K Q):o.wq P a w K' Q':=by
 unfold Oper.wq at *;generalize (execOp a.eval o).run P w=r at *
 cases r with
 |ok n w' =>
  cases n<;>simp only[Oper.uponIn]at hh ⊢ <;>
   first
    |exact h _ _ hh
    |exact⟨hh.1,CallsIn.mono hh.2 (λe w'' he=>by cases e<;>first|exact h _ _ he|exact hq _ _ _ (by simp) he|exact(let ⟨a,w,hx⟩:=he; ⟨a,w,hq _ _ _ (by simp) hx⟩))⟩
    |exact⟨hh.1,RoundIn.mono hh.2 (λe w'' he=>by cases e<;>first|exact h _ _ he|exact hq _ _ _ (by simp) he|exact(let ⟨a,w,hx⟩:=he; ⟨a,w,hq _ _ _ (by simp) hx⟩))⟩
    |exact⟨hh.1,λc cs hr=>let ⟨v,w',h1,h2⟩:=hh.2 c cs hr; ⟨v,w',h _ _ h1,h2⟩⟩
 |halt x w'=>cases x<;>simp only[Oper.uponIn]at hh ⊢ <;> exact hq _ _ _ (by simp) hh
theorem Qpe {i:Nat} {a:Act} {w:Wy} {K K':Act->Wy->Prop} (h:∀ a w,K a w->K' a w) (hh:Qbl P ops Q i K a w):Qbl P ops Q i K' a w:=by
 unfold Qbl at *;split
 . exact h _ _ (by simpa[*]using hh)
 . rename_i o ho;simp only[ho]at hh;split
   . rename_i hw; simp only[hw,We]at hh; exact Oper.wq_mono h (λ_ _ _ _ h=>h) hh
   . rename_i hw; simp only[hw]at hh; exact h _ _ hh
theorem Qoi (l:List Oper):∀ k,(∀ j,l[j]? = ops[k+j]?)->QdB P ops Q (List.range' k l.length)=QcA P ops Q l:=by
 induction l with
 |nil=>intro k _; funext a w; simp[QdB,QcA]
 |cons o l ih =>
  intro k h;have h0:ops[k]? = some o:=by simpa using (h 0).symm
  have ih':=ih (k+1) (λj=>by have:=h (j+1); simpa[Yd,Nat.add_comm 1 j]using this);funext a w;simp only[VT,Y1,QdB,Qbl,h0,QcA,ih']
theorem Qql (md:Region.Mode) (ops:Array Oper) (fuel t:Nat) (listed:Array Bool) (acc:List Nat) :
 Region.linearise.go md ops fuel t listed acc=acc.reverse++Region.linearise.go md ops fuel t listed []:=linearise_go_acc md ops fuel t listed acc
theorem QvR:∀ (fuel t:Nat) (listed:Array Bool) (a:Act) (w:Wy),Qbh P md ops Q fuel listed a w ->
 QdB P ops Q (Region.linearise.go md ops fuel t listed []) a w:=by
 intro fuel
 induction fuel with
 |zero=>intro t listed a w h; simpa[Region.linearise.go,QdB]using h.2
 |succ fuel ih =>
  intro t listed a w h;obtain⟨h₀,h₁⟩:=h;simp only[Region.linearise.go];change QdB P ops Q (match (Region.ready md ops listed)[t % (Region.ready md ops listed).length]? with
   |some i=>Region.linearise.go md ops fuel (t / (Region.ready md ops listed).length) (listed.setIfInBounds i true) [i]
   |none=>[].reverse) a w
  cases hi:(Region.ready md ops listed)[t % (Region.ready md ops listed).length]? with
  |none =>
   have hnil:Region.ready md ops listed=[]:=by
    cases hr:Region.ready md ops listed with
    |nil=>rfl
    |cons x xs =>
     rw[hr]at hi;have hlt:t % (x::xs).length<(x::xs).length:=Yr _ (by simp);simp at hi;simp at hlt;omega
   simpa[QdB]using h₀ hnil
  |some i =>
   simp only[];rw[Qql,List.reverse_singleton,Zm];exact Qpe (λa w=>ih _ _ a w) (h₁ i (Vp hi))
def ndB (ops:Array Oper):Bool:=ops.all λo=>match o.op with|.defer _=>false|_=>true
theorem Qry (h:ndB ops=true) {i:Nat} {o:Oper} (ho:ops[i]? = some o):∀ c,o.op≠.defer c:=by
 intro c hc;unfold ndB at h;rw[Array.all_eq_true]at h;obtain⟨hlt,rfl⟩:=VU.1 ho;have:=h i hlt;rw[hc]at this; cases this
theorem QrL {ro:Option Nat} {o:Oper} {a:Act} {next:Act->Wy->Prop} {r:Result Next} (h:o.uponIn (Fr none) 0 P a next Q r):o.uponIn (Fr ro) 0 P a next Q r:=by
 cases r with
 |ok n w=>cases n<;>exact h
 |halt x w=>cases x<;>exact h
theorem Qli (hn:ndB ops=true) (ro:Option Nat):∀ (l:List Nat) (a:Act) (w:Wy),QdB P ops Q l a w->wpOpsIn (Fr ro) 0 P ops Q l a w:=by
 intro l
 induction l with
 |nil=>exact λa w h=>h
 |cons i r ih =>
  intro a w h;have h':Qbl P ops Q i (wpOpsIn (Fr ro) 0 P ops Q r) a w:=Qpe ih h;unfold Qbl at h';simp only[wpOpsIn]
  cases ho:ops[i]? with
  |none=>rw[ho]at h'; exact h'
  |some o =>
   rw[ho]at h';simp only at h' ⊢;split
   . rename_i hw;rw[Wb hw]at h';refine⟨λ_ _=>trivial,?_⟩;rw[Oper.semAt_eq _ _ _ (Qry hn ho)];exact QrL h'
   . rename_i hw;rw[Wa hw]at h';exact⟨λ_ _=>trivial,h'⟩
variable {a:Act} {w:Wy} {ro:Option Nat}
theorem Qvr {id:Nat} (hn:ndB ops=true) (h:QcA P ops Q ops.toList a w):(Code.region id ops false).wq ro P Q a w :=
 wpIn_region (Qli hn ro _ a w (by rw[Zj,<- Array.length_toList,Qoi ops.toList 0 (by simp)]; exact h))
theorem Qf1 {id:Nat} (hn:ndB ops=true) (hm:P.follows .mixedOrders=true)
 (h:Qbh P .any ops Q ops.size (Array.replicate ops.size false) a { w with drawn:=w.drawn+1 }):(Code.region id ops true).wq ro P Q a w :=
 wpIn_region_draw λt=>by
  simp only[Region.schedule,hm,Bool.true_or,We];exact Qli hn ro _ a _ (QvR ops.size t _ a _ h)
theorem Qtm {o:Oper} {rest:List Oper}
 (h:∀ K:Act->Wy->Prop,(∀ a w,QcA P ops Q rest a w->K a w) ->
  if Region.wanted o (yielded ops a.tmps)then o.wq P a w K Q else K (a.put o.dst undef) w):QcA P ops Q (o::rest) a w:=h _ λ_ _ h=>h
theorem wq_mono {c:Code} {Q':Exit->Act->Wy->Prop} (h:c.wq ro P Q a w) (hq:∀ e a w,Q e a w->Q' e a w):c.wq ro P Q' a w:=wpIn_mono h hq
end
section
variable {P:Wx} {b:Frame} {a:Act} {k:List Item} {cs:List Frame} {w:Wy} {F:Fence} {n:Nat} {Q:Exit->Act->Wy->Prop}
theorem Qfa {c:Code}:step P (lone (b.atR a (.code (.scope c)::k)) cs w)=.next (lone (b.atR a (.code c::.inScope c::k)) cs w) :=
 step_lone_go (by simp[stepG,stepG.exec,Frame.atR])
theorem QuZ {c:Code}:step P (lone (b.atR a (.inScope c::k)) cs w)=.next (lone (b.atR a k) cs w) :=
 step_lone_go (by simp[stepG,stepG.exec,Frame.atR])
theorem QsB {c:Code} (h:c.wpIn F n P (λe a w=>(match e with|.goto _=>False|_=>True)/\Q e a w) a w):(Code.scope c).wpIn F n P Q a w:=by
 intro b k cs hro hb hr;have h0:(lone (b.atR a (.code (.scope c)::k)) cs w).fenced P F:=fenced_calm hb hr rfl;obtain⟨e,a₁,w₁,⟨hg,hq⟩,harr⟩:=h b (.inScope c::k) cs hro hb hr;have hx:∀ id,exitTo id (.inScope c::k)=exitTo id k:=λid=>by simp[exitTo]
 cases e with
 |normal=>exact⟨.normal,a₁,w₁,hq,.head h0 Qfa (StepsIn.trans harr (.one (fenced_calm hb hr rfl) QuZ))⟩
 |exit id=>exact⟨.exit id,a₁,w₁,hq,λk' hk=>.head h0 Qfa (harr.1 k' (by rw[hx]; exact hk)),
  λhr' hk=>let ⟨k₁,h1,h2⟩:=harr.2 hr' (by rw[hx]; exact hk); ⟨k₁,h1,.head h0 Qfa h2⟩⟩
 |goto l=>exact hg.elim
 |ret=>exact⟨_,a₁,w₁,hq,.of_steps (.one h0 Qfa) harr⟩
 |panic ch=>exact⟨_,a₁,w₁,hq,.of_steps (.one h0 Qfa) harr⟩
 |outgrown=>exact⟨_,a₁,w₁,hq,.of_steps (.one h0 Qfa) harr⟩
end
structure DB where
 n0:Nat
 base:List Deferred
 ro:Option Nat
def QbW (D:Nat):Deferred:={ target:=.collected D,args := #[] }
structure DB.Ok (d:DB) (w:Wy) (ds:List Deferred):Prop where
 le:d.n0<=w.heap.size
 ms:∃ ms:List Nat,ds=ms.map QbW++d.base/\ms.Nodup/\∀ D∈ms,d.n0<=D/\w.heap[D]? = some (.deferred (some []))
 ro:∀ l,d.ro=some l->∃ r,w.heap[l]? = some (.loop r)
theorem DB.Ok.drew {d:DB} {w:Wy} {ds:List Deferred} (h:d.Ok w ds):d.Ok w.drew ds:=⟨h.le,h.ms,h.ro⟩
section
variable [QK] [QE] [QF]
inductive J where
 |p (i:I)
 |e (i:E)
 |q (f:Od) (args:List Od)
structure Ins where
 d:Option Nat
 g:Option (Nat×Bool)
 j:J
inductive XE where
 |normal
 |exit (id:Nat)
 |goto (l:Nat)
 |ret
 |panic (x:SV)
abbrev Wr:=XE->Env->Ws->Prop
inductive Out where
 |ret (r:SV)
 |pan (x:SV)
def Ok (P:Wx) (f:Wz) (args:Wt) (H:Ws) (out:Out) (H':Ws):Prop :=
 (∀ (vs:Array Value) (w:Wy),(callFunc f vs).run P w=.ok (.enter f vs) w) /\
 ∀ (S:St) (vs:Wu),S.H=H->Sim S->VRs S args vs ->
  Calls P f vs.toArray S.w λe w'=>∃ (v:Value) (ρ':Nat->Option Nat),Ext S.H.length S ⟨ρ',H',w'⟩/\Sim ⟨ρ',H',w'⟩ /\
   match out with
   |.ret r=>e=.returned v/\VR ⟨ρ',H',w'⟩ r v
   |.pan x=>e=.panicked [{ v:=v,recovered:=false }]/\VR ⟨ρ',H',w'⟩ x v
def OkP (P:Wx) (f:Wz) (args:Wt) (H:Ws) (Pt:Out->Ws->Prop):Prop :=
 (∀ (vs:Array Value) (w:Wy),(callFunc f vs).run P w=.ok (.enter f vs) w) /\
 ∀ (S:St) (vs:Wu),S.H=H->Sim S->VRs S args vs ->
  Calls P f vs.toArray S.w λe w'=>∃ (out:Out) (H':Ws) (v:Value) (ρ':Nat->Option Nat),Pt out H'/\Ext S.H.length S ⟨ρ',H',w'⟩/\Sim ⟨ρ',H',w'⟩ /\
   match out with
   |.ret r=>e=.returned v/\VR ⟨ρ',H',w'⟩ r v
   |.pan x=>e=.panicked [{ v:=v,recovered:=false }]/\VR ⟨ρ',H',w'⟩ x v
theorem Ok.toP {P:Wx} {f:Wz} {args:Wt} {H:Ws} {out:Out} {H':Ws} (h:Ok P f args H out H'):OkP P f args H λo h=>o=out/\h=H':=by
 refine⟨h.1,λS vs h1 h2 h3=>(h.2 S vs h1 h2 h3).mono ?_⟩;rintro e w ⟨v,ρ',h4,h5,h6⟩;exact⟨out,H',v,ρ',⟨rfl,rfl⟩,h4,h5,h6⟩
theorem OkP.mono {P:Wx} {f:Wz} {args:Wt} {H:Ws} {Pt Pt':Out->Ws->Prop} (h:OkP P f args H Pt) (hp:∀ o h,Pt o h->Pt' o h):OkP P f args H Pt':=by
 refine⟨h.1,λS vs h1 h2 h3=>(h.2 S vs h1 h2 h3).mono ?_⟩;rintro e w ⟨out,H',v,ρ',h0,h4⟩;exact⟨out,H',v,ρ',hp _ _ h0,h4⟩
def YlP (P:Wx) (i:Nat) (args:Wt) (H:Ws) (Pt:Out->Ws->Prop):Prop :=
 (∃ o,H[i]? = some o/\o.ver=0)/\∀ (S:St) (vs:Wu) (l:Nat),S.H=H->Sim S->VRs S args vs->S.ρ i=some l ->
  ∃ r,S.w.heap[l]? = some (Obj.loop r)/\vs.length=r.params.size /\
   RoundIn (Fr none) 0 P l r.fn ((r.params.zip vs.toArray).foldl (λtmps (t,a)=>tmps.setIfInBounds t a) r.tmps) r.assign r.body S.w λe w' =>
    ∃ (out:Out) (H':Ws) (v:Value) (ρ':Nat->Option Nat),Pt out H'/\Ext S.H.length S ⟨ρ',H',w'⟩/\Sim ⟨ρ',H',w'⟩ /\
     match out with
     |.ret r=>e=.returned v/\VR ⟨ρ',H',w'⟩ r v
     |.pan x=>e=.panicked [{ v:=v,recovered:=false }]/\VR ⟨ρ',H',w'⟩ x v
def OkC (P:Wx) (f:SV) (args:Wt) (H:Ws) (out:Out) (H':Ws):Prop :=
 f.vd=true/\match f.ug with
 |.fn (.func k) first cap=>Ok P k (first++args++cap) H out H'
 |_=>False
def Qdj (P:Wx) (f:SV) (args:Wt) (H:Ws) (Pt:Out->Ws->Prop):Prop :=
 f.vd=true/\match f.ug with
 |.fn (.func k) first cap=>OkP P k (first++args++cap) H Pt
 |.yl i=>YlP P i args H Pt
 |_=>False
theorem OkC.toP {P:Wx} {f:SV} {args:Wt} {H:Ws} {out:Out} {H':Ws} (h:OkC P f args H out H'):Qdj P f args H λo h=>o=out/\h=H':=by
 refine⟨h.1,?_⟩;have h2:=h.2;split at h2
 . rename_i hf;rw[hf];exact h2.toP
 . exact h2.elim
def SV.on (want:Bool):SV->Bool
 |.val (.bool b)=>b==want
 |.gd b x=>b&&x.on want
 |_=>false
def SV.bish:SV->Bool
 |.val (.bool _)=>true
 |.gd _ x=>x.bish
 |_=>false
def xj (P:Wx) (o:Ins) (env:Env) (H:Ws) (K:Wr):Prop :=
 match o.j with
 |.p i=>(pv i env.ev H).1/\K .normal (env.put o.d (pv i env.ev H).2) H
 |.e (.call f args)=>∃ Pt:Out->Ws->Prop,Qdj P (env.ev f) (args.map env.ev) H Pt/\∀ out H',Pt out H' ->
  match out with
  |.ret r=>K .normal (env.put o.d r) H'
  |.pan x=>K (.panic x) env H'
 |.e (.calln f args)=>∃ (r:SV) (L:Ws),(∀ H':Ws,H'.length=H.length->OkC P (env.ev f) (args.map env.ev) H' (.ret r) (H'++L))/\K .normal (env.put o.d r) (H++L)
 |.e (.pan x)=>(env.ev x).vd=true/\match (env.ev x).ug with
  |.ifc t y=>K (.panic (.ifc t y)) env H
  |_=>False
 |.e i=>xe i env.ev H λv H'=>K .normal (env.put o.d v) H'
 |.q f args=>∃ r,OkC P (env.ev f) (args.map env.ev) H (.ret r) H/\K .normal (env.put o.d r) H
def xo (P:Wx) (o:Ins) (env:Env) (H:Ws) (K:Wr):Prop :=
 match o.g with
 |none=>xj P o env H K
 |some (s,want) =>
  (env.get s).bish=true /\
  match o.j with
  |.p i=>((env.get s).on want=true->(pv i env.ev H).1)/\K .normal (env.put o.d (.gd ((env.get s).on want) (pv i env.ev H).2)) H
  |.q f args=>∃ r,((env.get s).on want=true->OkC P (env.ev f) (args.map env.ev) H (.ret r) H)/\K .normal (env.put o.d (.gd ((env.get s).on want) r)) H
  |.e _=>((env.get s).on want=true->xj P o env H K)/\((env.get s).on want=false->K .normal (env.put o.d (.val undef)) H)
def QaC (P:Wx):List Ins->Env->Ws->(Wr)->Prop
 |[],env,H,K=>K .normal env H
 |o::r,env,H,K=>xo P o env H λx env H =>
  match x with
  |.normal=>QaC P r env H K
  |x=>K x env H
def ER (S:St):XE->Exit->Prop
 |.normal,.normal=>True
 |.exit i,.exit j=>i=j
 |.goto i,.goto j=>i=j
 |.ret,.ret=>True
 |.panic x,.panic ch=>∃ v,ch=[{ v:=v,recovered:=false }]/\VR S x v
 |_,_=>False
def QM (S:St) (N:Nat) (d:DB) (K:Wr):Exit->Act->Wy->Prop:=λe a w =>
 ∃ x env ρ H,ER ⟨ρ,H,w⟩ x e/\Ext S.H.length S ⟨ρ,H,w⟩/\Sim ⟨ρ,H,w⟩/\QB ⟨ρ,H,w⟩ env a.tmps/\a.tmps.size=N/\d.Ok w a.defers/\K x env H
theorem DB.Ok.ext {d:DB} {S S':St} {n:Nat} {ds:List Deferred} (h:d.Ok S.w ds) (hS:Sim S) (he:Ext n S S'):d.Ok S'.w ds:=by
 refine⟨YO h.le he.size,?_,λl hl=>let ⟨r,h1⟩:=h.ro l hl; he.loops l r h1⟩
 obtain⟨ms,h1,h2,h3⟩:=h.ms;refine⟨ms,h1,h2,λD hD=>⟨(h3 D hD).1,?_⟩⟩;have h4:=(h3 D hD).2;refine((he.imm D (Qce h4) ?_).1).trans h4;rintro⟨i,o,ho,hl,hρ⟩;rcases hS.own ho hl hρ with ⟨c,h5⟩|⟨r,h5⟩|⟨es,cl,h5⟩<;>(rw[h4]at h5; cases h5)
def Qpt (sz:Nat) (s:SV):Bool:=match s with|.agg l=>l.length==sz&&l.all SV.isCell|_=>false
def Qke (P:Wx) (op:Op) (T:Ww) (sz len:Nat) (z:Wt) (parts:List (Nat×SV)):Bool :=
 let cells:=Qah (List.replicate len z).flatten (parts.map λp=>(p.1*sz,p.2))
 Qav P op (.bsl T sz len z (parts.map λp=>(p.1,Od.c p.2)))&&cells.all SV.isCell&&SV.underL 0 cells&&cells.length==len*sz&&parts.all λp=>decide (p.1*sz+sz<=len*sz)&&Qpt sz p.2
def QlB (P:Wx) (op:Op) (j:J):Bool :=
 match j with
 |.p (.kro T sz len z parts)=>Qke P op T sz len z parts
 |.p i=>QT P op i
 |.e i=>Qav P op i
 |.q f args=>Qav P op (.call f args)
def Qb1 (P:Wx) (N:Nat) (ops:Array Oper) (o:Oper) (o':Ins):Bool :=
 o.dst==o'.d&&(match o.dst with|some d=>decide (d<N)|none=>true) &&
 (match o.guard,o'.g with
  |none,none=>true
  |some (j,want),some (s,want')=>want==want'&&((ops[j]?).bind (·.dst)==some s)
  |_,_=>false)&&QlB P o.op o'.j
section
variable {P:Wx} {S:St} {env:Env} {a:Act} {N:Nat} {d:DB}
def Qft:Value->Option Bool
 |.bool b=>some b
 |_=>none
theorem QvZ {x:SV} {v:Value} {want:Bool} (h:VR S x v) (hb:x.bish=true):(Qft v==some want)=x.on want:=by
 induction h with
 |val v=>cases v<;>simp_all [SV.bish,SV.on,Qft]
 |gd b x v h0 h ih =>
  simp only[SV.bish]at hb;simp only[SV.on]
  cases b with
  |true=>simpa using ih rfl hb
  |false=>rw[h0 rfl]; simp[undef,Qft]
 |_=>simp[SV.bish]at hb
theorem Qss {ops:Array Oper} {j s:Nat} (hj:(ops[j]?).bind (·.dst)=some s) (tmps:Array Value) :
 yielded ops tmps j=Qft (tmps.getD s undef):=by
 unfold yielded;rw[hj];simp only[Option.bind_some,V2]
 cases h:tmps[s]? with
 |none=>simp[undef,Qft]
 |some v=>simp only[VQ]; cases v<;>rfl
def Qev (P:Wx) (ops:Array Oper) (o:Oper) (a:Act) (w:Wy) (next:Act->Wy->Prop) (Q:Exit->Act->Wy->Prop):Prop :=
 if Region.wanted o (yielded ops a.tmps)then o.wq P a w next Q else next (a.put o.dst undef) w
theorem QkD (hS:Sim S) (he:QB S env a.tmps) {o:Oper} {f:Od} {args:List Od} (hc:Qav P o.op (.call f args)=true) {Pt:Out->Ws->Prop}
   (hok:Qdj P (env.ev f) (args.map env.ev) S.H Pt) {next:Act->Wy->Prop} {Q:Exit->Act->Wy->Prop}
   (h1:∀ out H' v ρ' w',Pt out H'->Ext S.H.length S ⟨ρ',H',w'⟩->Sim ⟨ρ',H',w'⟩ ->
     (match out with
      |.ret r=>VR ⟨ρ',H',w'⟩ r v->next (a.put o.dst v) w'
      |.pan x=>VR ⟨ρ',H',w'⟩ x v->Q (.panic [{ v:=v,recovered:=false }]) a w')):o.wq P a S.w next Q:=by
 generalize hop:o.op=op at hc;simp only[Qav]at hc;split at hc
 . rename_i f' as ts;simp only[Va]at hc;have hf:=Qp hc.1 he;have has:=QgF hc.2 he;obtain⟨hvd,hok⟩:=hok;have hf':=hf.ug hvd;split at hok
   . rename_i k first cap hug
     rw[hug]at hf';obtain⟨us,vs,hv,hus,hvs⟩:=hf'.fn_inv;obtain⟨hent,hcall⟩:=hok;have hcalls:=hcall S (us++as.toList.map a.eval++vs) rfl hS ((hus.append has).append hvs);have hrun:(execOp a.eval o).run P S.w=.ok (.enter k (us++as.toList.map a.eval++vs).toArray) S.w:=by
       have e1:us.toArray++as.map a.eval++vs.toArray=(us++as.toList.map a.eval++vs).toArray:=by apply Y3; simp
       simp only[execOp,hop,resolve,hv,Deferred.ofValue,Vo,VL,Vv,invoke];rw[e1,hent]
     unfold Oper.wq;rw[hrun,Oper.uponIn_enter];refine⟨QhS,callsIn_wide.2 (hcalls.mono ?_)⟩;rintro e w' ⟨out,H',v,ρ',hpt,hext,hsim,hout⟩
     cases out with
     |ret r=>obtain⟨rfl,hvr⟩:=hout; exact h1 _ H' v ρ' w' hpt hext hsim hvr
     |pan x=>obtain⟨rfl,hvr⟩:=hout; exact h1 _ H' v ρ' w' hpt hext hsim hvr
   . rename_i i hug;rw[hug]at hf';obtain⟨⟨o1,ho1,hv1⟩,hok⟩:=hok;generalize hfv:a.eval f'=fv at hf'
     cases hf' with
     |yl _ l o2 ho2 hρ =>
       rw[ho1]at ho2; cases ho2
       obtain⟨r,hr,hlen,hround⟩:=hok S (as.toList.map a.eval) l rfl hS has (hρ hv1);have hrun:(execOp a.eval o).run P S.w=.ok (.round l r.fn ((r.params.zip (as.toList.map a.eval).toArray).foldl (λtmps (t,a)=>tmps.setIfInBounds t a) r.tmps) r.assign r.body) S.w:=by
         have hy:=run_yield (P:=P) (args:=(as.toList.map a.eval).toArray) hr (by simpa using hlen);have e1:as.map a.eval=(as.toList.map a.eval).toArray:=by apply Y3; simp
         simp only[execOp,hop,resolve,hfv,Deferred.ofValue,Vo,VL,Vv,invoke];simpa[e1]using hy
       unfold Oper.wq;rw[hrun,Oper.uponIn_round];refine⟨QhS,hround.mono ?_⟩;rintro e w' ⟨out,H',v,ρ',hpt,hext,hsim,hout⟩
       cases out with
       |ret r=>obtain⟨rfl,hvr⟩:=hout; exact h1 _ H' v ρ' w' hpt hext hsim hvr
       |pan x=>obtain⟨rfl,hvr⟩:=hout; exact h1 _ H' v ρ' w' hpt hext hsim hvr
   . exact hok.elim
 . cases hc
theorem Qo0 (hS:Sim S) (he:QB S env a.tmps) {o:Oper} {f:Od} {args:List Od} (hc:Qav P o.op (.call f args)=true) {out:Out} {H':Ws}
   (hok:OkC P (env.ev f) (args.map env.ev) S.H out H') {next:Act->Wy->Prop} {Q:Exit->Act->Wy->Prop}
   (h1:∀ v ρ' w',Ext S.H.length S ⟨ρ',H',w'⟩->Sim ⟨ρ',H',w'⟩ ->
     (match out with
      |.ret r=>VR ⟨ρ',H',w'⟩ r v->next (a.put o.dst v) w'
      |.pan x=>VR ⟨ρ',H',w'⟩ x v->Q (.panic [{ v:=v,recovered:=false }]) a w')):o.wq P a S.w next Q :=
 QkD hS he hc hok.toP λo h v ρ' w' hp he hs=>by
   obtain⟨rfl,rfl⟩:=hp
   cases o<;>exact h1 v ρ' w' he hs
theorem Qgf (a:Act) (d:Option Nat) (v:Value):(a.put d v).tmps.size=a.tmps.size:=by cases d<;>simp[Act.put]
theorem QfF (a:Act) (d:Option Nat) (v:Value):(a.put d v).defers=a.defers:=by cases d<;>rfl
theorem thaw {S:St} (hS:Sim S) {H0:Ws} {cells:Wt} {T:Ww} {len sz:Nat} {v:Value} (hH:S.H=H0++[⟨cells,T,0,true⟩]) (hcl:∀ (i:Nat) (o:AO),H0[i]? = some o->∀ s∈o.cells,s.under H0.length=true)
 (hu:SV.underL H0.length cells=true) (hlen:cells.length=len*sz) (hv:VR S (.own H0.length 0 len sz 0) v) :
 Ext H0.length S ⟨S.ρ,H0,S.w⟩/\Sim ⟨S.ρ,H0,S.w⟩/\VR ⟨S.ρ,H0,S.w⟩ (.slc cells len) v:=by
 have hle:H0.length<=S.H.length:=by rw[hH]; simp
 have ht:S.H.take H0.length=H0:=by rw[hH]; simp
 have h1:=QeK (S:=S) hle;have h2:=Qnp hS hle (λi o hi ho=>hcl i o (by rw[hH,Vd hi]at ho; exact ho));rw[ht]at h1 h2;refine⟨h1,h2,?_⟩;have hat:S.H[H0.length]? = some ⟨cells,T,0,true⟩:=by rw[hH]; simp
 have hl:=hS.live _ _ hat rfl;have zero:len=0->cells=[]:=λh=>Vx (by rw[hlen,h,Yc]);have none_:∀ (ad:Wv) (cap:Nat),len=0->(ad=none->cap=0)->VR ⟨S.ρ,H0,S.w⟩ (.slc cells len) (.slice ad len cap):=by
  intro ad cap h0 hc;rw[zero h0,h0]
  cases ad with
  |none=>rw[hc rfl]; exact .nilslc
  |some ad=>exact .slc [] 0 ad cap [] (Yq _) rfl ⟨λj u hj=>by simp at hj,λhne=>absurd rfl hne,Qei⟩ λj s u hj=>by simp at hj
 cases hv with
 |own _ _ _ _ _ ad cap o ho hvv hc hz h =>
  rw[hat]at ho; cases ho
  have h3:=h rfl;unfold St.OwnAt at h3
  cases hρ:S.ρ H0.length with
  |none =>
   rw[hρ]at h3;exact none_ ad cap h3.1 λ_=>h3.2
  |some b =>
   rw[hρ]at h3 hl;obtain⟨us,rest,hh,hvr⟩:=hl;rcases h3 with h3|⟨rfl,_⟩
   . exact none_ ad cap (by omega) λ_=>h3
   . have hvr':=hvr.extB h1 hu;refine .slc cells len _ cap us hc hvr'.1 ⟨?_,λ_ hr => ?_,λ_ _=>.inl ⟨_,_,hh⟩⟩ hvr'.2
     . intro j u hj;have hadd:(⟨b,0,none⟩:Addr).add j=⟨b,j,none⟩:=by unfold Addr.add; split<;>simp_all
       rw[hadd];unfold World.cell?;simp only[hh,YQ,VE,Wl];simp[Vd (Qd hj),hj]
     . obtain⟨i,o,ho,hl',hρ'⟩:=hr;have hi:i<H0.length:=Qd ho;have ho':S.H[i]? = some o:=by rw[hH,Vd hi]; exact ho
       have:=hS.inj i H0.length o _ b ho' hat hl' (AO.own_live rfl) hρ' hρ;omega
theorem QnV (hS:Sim S) (he:QB S env a.tmps) {o:Oper} {T:Ww} {sz len:Nat} {z:Wt} {parts:List (Nat×SV)} (hc:Qke P o.op T sz len z parts=true) :
 ∃ v ρ' w',(execOp a.eval o).run P S.w=.ok (.value v) w'/\Ext S.H.length S ⟨ρ',S.H,w'⟩/\Sim ⟨ρ',S.H,w'⟩/\VR ⟨ρ',S.H,w'⟩ (.slc (Qah (List.replicate len z).flatten (parts.map λp=>(p.1*sz,p.2))) len) v:=by
 unfold Qke at hc;simp only[Va,Wc,Vy,Wd]at hc;obtain⟨⟨⟨⟨h1,h2⟩,h3⟩,h4⟩,h5⟩:=hc;have hm:(parts.map λp=>(p.1,Od.c p.2)).map (λp=>(p.1*sz,env.ev p.2))=parts.map λp=>(p.1*sz,p.2):=by
  rw[YS]; rfl
 obtain⟨nv,S',sv,hrun,hext,hsim,hvr,rfl,hH⟩:=Qma (o:=o) hS he h1 rfl (K:=λsv H'=>sv=.own S.H.length 0 len sz 0/\H'=S.H++[⟨Qah (List.replicate len z).flatten (parts.map λp=>(p.1*sz,p.2)),T,0,true⟩]) (by
  refine⟨?_,?_,?_⟩
  . intro p hp;obtain⟨q,hq,rfl⟩:=Vl.1 hp;obtain⟨k1,k2⟩:=h5 q hq;refine⟨?_,k1⟩;unfold Qpt at k2;split at k2
    . rename_i l hl;rw[Va,Wc]at k2;show Q9 sz (env.ev (.c q.2));simp only[Env.ev,hl];exact⟨k2.1,rfl⟩
    . cases k2
  . rw[hm]; exact h2
  . rw[hm]; exact⟨rfl,rfl⟩)
 obtain⟨k1,k2,k3⟩:=thaw hsim hH (λi o ho=>λs hs=>(hS.bel i o ho s hs).1) (SV.underL_mono (Yq _) _ h3) h4 hvr;refine⟨nv,S'.ρ,S'.w,?_,hext.trans (k1.mono (Vc _)),k2,k3⟩;rcases hrun with hrun|⟨hrun,h0⟩
 . exact hrun
 . subst h0; cases hvr
theorem Qoq (hS:Sim S) (he:QB S env a.tmps) (hN:a.tmps.size=N) (hd:d.Ok S.w a.defers) {o:Oper} {o':Ins} (hdst:o.dst=o'.d) (hlt:∀ t,o.dst=some t->t<N) (hc:QlB P o.op o'.j=true)
 {K:Wr} (h:xj P o' env S.H K) {next:Act->Wy->Prop} {Q:Exit->Act->Wy->Prop}
 (hnext:∀ a' w',QM S N d K .normal a' w'->next a' w') (hQ:∀ ch a' w',QM S N d K (.panic ch) a' w'->Q (.panic ch) a' w'):o.wq P a S.w next Q:=by
 have hlt':∀ t,o.dst=some t->t<a.tmps.size:=by rw[hN]; exact hlt
 have fin:∀ (v:Value) (s:SV) (ρ':Nat->Option Nat) (H':Ws) (w':Wy),Ext S.H.length S ⟨ρ',H',w'⟩->Sim ⟨ρ',H',w'⟩->VR ⟨ρ',H',w'⟩ s v->K .normal (env.put o'.d s) H'->next (a.put o.dst v) w':=by
  intro v s ρ' H' w' h1 h2 h3 h4;refine hnext _ _ ⟨.normal,env.put o'.d s,ρ',H',trivial,h1,h2,?_,by rw[Qgf,hN],by rw[QfF]; exact hd.ext hS h1,h4⟩;rw[<-hdst];exact(he.ext h1).put hlt' h3
 unfold xj at h
 cases hj:o'.j with
 |p i =>
  rw[hj]at h hc;obtain⟨h1,h2⟩:=h;have key:∃ v ρ' w',(execOp a.eval o).run P S.w=.ok (.value v) w'/\Ext S.H.length S ⟨ρ',S.H,w'⟩/\Sim ⟨ρ',S.H,w'⟩/\VR ⟨ρ',S.H,w'⟩ (pv i env.ev S.H).2 v:=by
   by_cases hk:∃ T sz len z parts,i=.kro T sz len z parts
   . obtain⟨T,sz,len,z,parts,rfl⟩:=hk;exact QnV hS he hc
   . have hc':QT P o.op i=true:=by
      cases i<;>first|exact hc|exact absurd ⟨_,_,_,_,_,rfl⟩ hk
     obtain⟨v,hrun,hv⟩:=Qmn hS he hc' h1;exact⟨v,S.ρ,S.w,hrun,Ext.refl _ S,hS,hv⟩
  obtain⟨v,ρ',w',hrun,hext,hsim,hv⟩:=key;unfold Oper.wq;rw[hrun,Oper.uponIn_value];exact fin v _ ρ' S.H w' hext hsim hv h2
 |q f args =>
  rw[hj]at h hc;obtain⟨r,h1,h2⟩:=h;refine Qo0 hS he hc h1 λv ρ' w' hext hsim hv => ?_;exact fin v r ρ' S.H w' hext hsim hv h2
 |e i =>
  rw[hj]at h hc;by_cases hcall:i.isCall=true
  . cases i<;>simp[E.isCall]at hcall
    case call f args =>
     obtain⟨Pt,h1,h2⟩:=h;refine QkD hS he hc h1 λout H' v ρ' w' hpt hext hsim => ?_;have h2:=h2 out H' hpt
     cases out with
     |ret r=>exact λhv=>fin v r ρ' H' w' hext hsim hv h2
     |pan x =>
      intro hv;exact hQ _ _ _ ⟨.panic x,env,ρ',H',⟨v,rfl,hv⟩,hext,hsim,he.ext hext,hN,hd.ext hS hext,h2⟩
    case calln f args =>
     obtain⟨r,L,h1,h2⟩:=h;refine QkD hS he hc (h1 S.H rfl).toP λout H' v ρ' w' hpt hext hsim => ?_;obtain⟨rfl,rfl⟩:=hpt;exact λhv=>fin v r ρ' (S.H++L) w' hext hsim hv h2
    case pan x =>
     obtain⟨hvd,h2⟩:=h;generalize hop:o.op=op at hc;simp only[QlB,Qav]at hc;split at hc
     . rename_i x0;have hx':=(Qp hc he).ug hvd;split at h2
       . rename_i t y hug;rw[hug]at hx';generalize hv:a.eval x0=v at hx'
         cases hx' with
         |ifc _ _ v hy =>
          unfold Oper.wq;have hrun:(execOp a.eval o).run P S.w=.halt (.panic (.iface t v)) S.w:=by
           simp only[execOp,hop,hv,Instr.panic]; rfl
          rw[hrun,Oper.uponIn_panic];exact hQ _ _ _ ⟨.panic (.ifc t y),env,S.ρ,S.H,⟨_,rfl,.ifc _ _ _ hy⟩,Ext.refl _ S,hS,he,hN,hd,h2⟩
       . exact h2.elim
     . cases hc
  . have hcall':i.isCall=false:=by simpa using hcall
    have h':xe i env.ev S.H λv H'=>K .normal (env.put o'.d v) H':=by
     cases i<;>first|exact h|simp[E.isCall]at hcall'
    obtain⟨nv,S',sv,hrun,hext,hsim,hvr,hK⟩:=Qma (o:=o) hS he hc hcall' h';unfold Oper.wq;rcases hrun with hrun|⟨hrun,rfl⟩
    . rw[hrun,Oper.uponIn_value]; exact fin nv sv S'.ρ S'.H S'.w hext hsim hvr hK
    . rw[hrun,Oper.uponIn_skip]; exact fin _ sv S'.ρ S'.H S'.w hext hsim hvr hK
theorem QdL (hS:Sim S) (he:QB S env a.tmps) (hN:a.tmps.size=N) (hd:d.Ok S.w a.defers) {ops:Array Oper} {o:Oper} {o':Ins} (hc:Qb1 P N ops o o'=true)
 {K:Wr} (h:xo P o' env S.H K) {next:Act->Wy->Prop} {Q:Exit->Act->Wy->Prop}
 (hnext:∀ a' w',QM S N d K .normal a' w'->next a' w') (hQ:∀ ch a' w',QM S N d K (.panic ch) a' w'->Q (.panic ch) a' w'):Qev P ops o a S.w next Q:=by
 unfold Qb1 at hc;rw[Va,Va,Va,Wc]at hc;obtain⟨⟨⟨hdst,hlt0⟩,hg⟩,hj⟩:=hc;have hlt:∀ t,o.dst=some t->t<N:=by intro t ht; rw[ht]at hlt0; simpa using hlt0
 have hlt':∀ t,o.dst=some t->t<a.tmps.size:=by rw[hN]; exact hlt
 unfold Qev;unfold xo at h
 cases hog:o.guard with
 |none =>
  rw[hog]at hg
  cases hog':o'.g with
  |some x=>rw[hog']at hg; cases hg
  |none =>
   rw[hog']at h;rw[Wb (by simp[Region.wanted,hog])];exact Qoq hS he hN hd hdst hlt hj h hnext hQ
 |some jw =>
  obtain⟨j,want⟩:=jw;rw[hog]at hg
  cases hog':o'.g with
  |none=>rw[hog']at hg; cases hg
  |some sw =>
   obtain⟨s,want'⟩:=sw;rw[hog']at hg h;simp only[Va,Wc]at hg;obtain⟨rfl,hs⟩:=hg;simp only at h;obtain⟨hb,h⟩:=h;have hw:Region.wanted o (yielded ops a.tmps)=(env.get s).on want:=by
    unfold Region.wanted;rw[hog];simp only;rw[Qss hs];exact QvZ (he.get s) hb
   rw[hw];have skip:∀ (sv:SV),(env.get s).on want=false->VR S sv undef->K .normal (env.put o'.d sv) S.H->next (a.put o.dst undef) S.w:=by
    intro sv hoff hv hK;refine hnext _ _ ⟨.normal,env.put o'.d sv,S.ρ,S.H,trivial,Ext.refl _ S,hS,?_,by rw[Qgf,hN],by rw[QfF]; exact hd,hK⟩;rw[<-hdst];exact he.put hlt' hv
   cases hoj:o'.j with
   |p i =>
    rw[hoj]at h hj;obtain⟨h1,h2⟩:=h
    cases hon:(env.get s).on want with
    |true =>
     rw[Wb rfl];have key:∃ v ρ' w',(execOp a.eval o).run P S.w=.ok (.value v) w'/\Ext S.H.length S ⟨ρ',S.H,w'⟩/\Sim ⟨ρ',S.H,w'⟩/\VR ⟨ρ',S.H,w'⟩ (pv i env.ev S.H).2 v:=by
      by_cases hk:∃ T sz len z parts,i=.kro T sz len z parts
      . obtain⟨T,sz,len,z,parts,rfl⟩:=hk;exact QnV hS he hj
      . have hc':QT P o.op i=true:=by
         cases i<;>first|exact hj|exact absurd ⟨_,_,_,_,_,rfl⟩ hk
        obtain⟨v,hrun,hv⟩:=Qmn hS he hc' (h1 hon);exact⟨v,S.ρ,S.w,hrun,Ext.refl _ S,hS,hv⟩
     obtain⟨v,ρ',w',hrun,hext,hsim,hv⟩:=key;unfold Oper.wq;rw[hrun,Oper.uponIn_value];refine hnext _ _ ⟨.normal,_,ρ',S.H,trivial,hext,hsim,?_,by rw[Qgf,hN],by rw[QfF]; exact hd.ext hS hext,h2⟩;rw[<-hdst];exact(he.ext hext).put hlt' (.gd _ _ _ (λe=>by rw[hon]at e; cases e) λ_=>hv)
    |false =>
     rw[Wa (by simp)];exact skip _ hon (.gd _ _ _ (λ_=>rfl) λe=>by rw[hon]at e; cases e) h2
   |q f args =>
    rw[hoj]at h hj;obtain⟨r,h1,h2⟩:=h
    cases hon:(env.get s).on want with
    |true =>
     rw[Wb rfl];refine Qo0 hS he hj (h1 hon) λv ρ' w' hext hsim hv => ?_;refine hnext _ _ ⟨.normal,_,ρ',S.H,trivial,hext,hsim,?_,by rw[Qgf,hN],by rw[QfF]; exact hd.ext hS hext,h2⟩;rw[<-hdst];exact(he.ext hext).put hlt' (.gd _ _ _ (λe=>by rw[hon]at e; cases e) λ_=>hv)
    |false =>
     rw[Wa (by simp)];exact skip _ hon (.gd _ _ _ (λ_=>rfl) λe=>by rw[hon]at e; cases e) h2
   |e i =>
    rw[hoj]at h;simp only at h
    cases hon:(env.get s).on want with
    |true =>
     rw[Wb rfl];exact Qoq hS he hN hd hdst hlt hj (h.1 hon) hnext hQ
    |false =>
     rw[Wa (by simp)];exact skip _ hon (.val _) (h.2 hon)
theorem QM.trans {S S':St} {K:Wr} {e:Exit} {a:Act} {w:Wy} (he:Ext S.H.length S S') (h:QM S' N d K e a w):QM S N d K e a w:=by
 obtain⟨x,env,ρ,H,h1,h2,h3⟩:=h;exact⟨x,env,ρ,H,h1,he.trans (h2.mono (he.len (Vc _))),h3⟩
def chkL (P:Wx) (N:Nat) (ops:Array Oper):List Oper->List Ins->Bool
 |[],[]=>true
 |o::r,o'::r'=>Qb1 P N ops o o'&&chkL P N ops r r'
 |_,_=>false
theorem QjR {ops:Array Oper} {K:Wr}:∀ (l:List Oper) (l':List Ins) {S:St} {env:Env} {a:Act},Sim S->QB S env a.tmps->a.tmps.size=N->d.Ok S.w a.defers ->
 chkL P N ops l l'=true->QaC P l' env S.H K->QcA P ops (QM S N d K) l a S.w
 |[],[],S,env,a,hS,he,hN,hd,_,h=>⟨.normal,env,S.ρ,S.H,trivial,Ext.refl _ S,hS,he,hN,hd,h⟩
 |[],_::_,S,env,a,hS,he,hN,hd,hc,h=>by simp[chkL]at hc
 |_::_,[],S,env,a,hS,he,hN,hd,hc,h=>by simp[chkL]at hc
 |o::r,o'::r',S,env,a,hS,he,hN,hd,hc,h=>by
  simp only[chkL,Va]at hc;refine Qtm λK' hK' => ?_;have hstep:=QdL (Q:=QM S N d K) hS he hN hd hc.1 (by simpa only[QaC]using h) (next:=K') (by
   rintro a' w' ⟨x,env',ρ',H',hx,hext,hsim,henv,hN',hd',hk⟩;apply hK'
   cases x<;>simp only[ER]at hx
   simp only at hk;have ih:=QjR r r' (S:=⟨ρ',H',w'⟩) hsim henv hN' hd' hc.2 hk;have mono:∀ (l:List Oper) (a:Act) (w:Wy),QcA P ops (QM ⟨ρ',H',w'⟩ N d K) l a w->QcA P ops (QM S N d K) l a w:=by
    intro l
    induction l with
    |nil=>intro a w h; exact QM.trans hext h
    |cons o l ih =>
     intro a w h;simp only[QcA]at h ⊢;split
     . rename_i hw;rw[Wb hw]at h;exact Oper.wq_mono ih (λ_ _ _ _ h=>QM.trans hext h) h
     . rename_i hw;rw[Wa hw]at h;exact ih _ _ h
   exact mono r a' w' ih) (by
   rintro ch a' w' ⟨x,env',ρ',H',hx,hrest⟩
   cases x<;>simp only[ER]at hx
   exact⟨.panic _,env',ρ',H',hx,hrest⟩)
  exact hstep
end
end
section
variable [QK] [QE] [QF]
section
variable {P:Wx}
def Qdf (ops:Array Oper):Nat->Nat->Nat->Bool
 |0,_,_=>false
 |n+1,i,k=>match ops[i]? with
  |none=>false
  |some o=>(o.after.toList.any λe=>Region.binds .any e&&e.on==k)||(o.after.toList.any λe=>Region.binds .any e&&Qdf ops n e.on k)
theorem Qlu {ops:Array Oper} {L:Nat->Prop} (hcl:∀ j o,L j->ops[j]? = some o->∀ e∈o.after,Region.binds .any e=true->L e.on) :
 ∀ (n i k:Nat) (o:Oper),ops[i]? = some o->(∀ e∈o.after,Region.binds .any e=true->L e.on)->Qdf ops n i k=true->L k
 |0,_,_,_,_,_,h=>by cases h
 |n+1,i,k,o,ho,hw,h=>by
  simp only[Qdf,ho,Yb,Yh,Va,Wc]at h;rcases h with ⟨e,he,hb,hk⟩|⟨e,he,hb,hr⟩
  . rw[<-hk]; exact hw e (by simpa using he) hb
  . have hL:=hw e (by simpa using he) hb
    cases n with
    |zero=>cases hr
    |succ n =>
     cases ho2:ops[e.on]? with
     |none=>simp[Qdf,ho2]at hr
     |some o2=>exact Qlu hcl (n+1) e.on k o2 ho2 (hcl e.on o2 hL ho2) hr
def QeW (ops:Array Oper) (n0:Nat):Bool :=
 decide (n0<=ops.size)&&(List.range ops.size).all λi=>match ops[i]? with
  |none=>false
  |some o=>(o.after.toList.all λe => !Region.binds .any e||decide (e.on<i)) &&
   (if i<n0 then(match o.guard with|none=>true|some (g,_)=>decide (g<n0))else(List.range i).all λk=>Qdf ops ops.size i k)
structure QgP (ops:Array Oper) (n0:Nat):Prop where
 le:n0<=ops.size
 edge:∀ i o,ops[i]? = some o->∀ e∈o.after,Region.binds .any e=true->e.on<i
 guard:∀ i o,i<n0->ops[i]? = some o->∀ g w,o.guard=some (g,w)->g<n0
 all:∀ i o,n0<=i->ops[i]? = some o->∀ k,k<i->Qdf ops ops.size i k=true
structure QjO (ops:Array Oper) (n0:Nat):Prop where
 le:n0<=ops.size
 edge:∀ i o,ops[i]? = some o->∀ e∈o.after,Region.binds .any e=true->e.on<i
 guard:∀ i o,i<n0->ops[i]? = some o->∀ g w,o.guard=some (g,w)->g<n0
 all:∀ i o,n0<=i->ops[i]? = some o->∀ k,k<n0->Qdf ops ops.size i k=true
theorem QgP.wt {ops:Array Oper} {n0:Nat} (h:QgP ops n0):QjO ops n0:=⟨h.le,h.edge,h.guard,λi o hi ho k hk=>h.all i o hi ho k (by omega)⟩
def Qi2 (ops:Array Oper) (n0:Nat):Bool :=
 decide (n0<=ops.size)&&(List.range ops.size).all λi=>match ops[i]? with
  |none=>false
  |some o=>(o.after.toList.all λe => !Region.binds .any e||decide (e.on<i)) &&
   (if i<n0 then(match o.guard with|none=>true|some (g,_)=>decide (g<n0))else(List.range n0).all λk=>Qdf ops ops.size i k)
theorem QtW {ops:Array Oper} {n0:Nat} (h:Qi2 ops n0=true):QjO ops n0:=by
 unfold Qi2 at h;rw[Va,Vy]at h;obtain⟨h1,h2⟩:=h;have key:∀ i o,ops[i]? = some o->(o.after.toList.all λe => !Region.binds .any e||decide (e.on<i))=true /\
  (if i<n0 then(match o.guard with|none=>true|some (g,_)=>decide (g<n0))else(List.range n0).all λk=>Qdf ops ops.size i k)=true:=by
  intro i o ho;have:=h2 i (by rw[VJ]; exact(VU.1 ho).1);rw[ho]at this;simpa only[Va]using this
 refine⟨Wq h1,?_,?_,?_⟩
 . intro i o ho e he hb;have:=(key i o ho).1;rw[Vy]at this;have:=this e (by simpa using he);rw[hb]at this;simpa using this
 . intro i o hi ho g w hg;have:=(key i o ho).2;rw[Wb hi,hg]at this;simpa using this
 . intro i o hi ho k hk;have:=(key i o ho).2;rw[Wa (by omega),Vy]at this;exact this k (by rw[VJ]; exact hk)
theorem QeX {ops:Array Oper} {n0:Nat} (h:QeW ops n0=true):QgP ops n0:=by
 unfold QeW at h;rw[Va,Vy]at h;obtain⟨h1,h2⟩:=h;have key:∀ i o,ops[i]? = some o->(o.after.toList.all λe => !Region.binds .any e||decide (e.on<i))=true /\
  (if i<n0 then(match o.guard with|none=>true|some (g,_)=>decide (g<n0))else(List.range i).all λk=>Qdf ops ops.size i k)=true:=by
  intro i o ho;have:=h2 i (by rw[VJ]; exact(VU.1 ho).1);rw[ho]at this;simpa only[Va]using this
 refine⟨Wq h1,?_,?_,?_⟩
 . intro i o ho e he hb;have:=(key i o ho).1;rw[Vy]at this;have:=this e (by simpa using he);rw[hb]at this;simpa using this
 . intro i o hi ho g w hg;have:=(key i o ho).2;rw[Wb hi,hg]at this;simpa using this
 . intro i o hi ho k hk;have:=(key i o ho).2;rw[Wa (by omega),Vy]at this;exact this k (by rw[VJ]; exact hk)
theorem Qet {listed:Array Bool} {i:Nat} (h:i<listed.size):listed.getD i true=listed.getD i false:=by
 simp[V2,Yg h]
theorem QgI {ops:Array Oper} (hedge:∀ i o,ops[i]? = some o->∀ e∈o.after,Region.binds .any e=true->e.on<i) {listed:Array Bool} (hsz:listed.size=ops.size) (hr:Region.ready .any ops listed=[]) :
 ∀ i,i<ops.size->listed.getD i false=true:=by
 intro i
 induction i using Nat.strongRecOn with
 |_ i ih =>
  intro hi
  cases h:listed.getD i false with
  |true=>rfl
  |false =>
   have:i∈Region.ready .any ops listed:=by
    rw[mem_ready];refine⟨by rw[Qet (by omega)]; exact h,ops[i],Yg hi,λe he hb => ?_⟩;have:=hedge i ops[i] (Yg hi) e he hb;exact ih e.on this (by omega)
   rw[hr]at this; simp at this
theorem Qek {listed:Array Bool} {i k:Nat} (hi:i<listed.size):(listed.setIfInBounds i true).getD k false=if k=i then true else listed.getD k false:=by
 simp only[V2,YP];by_cases h:i=k
 . subst h; simp[hi]
 . rw[Wa h,Wa (λe=>h e.symm)]
theorem QjG {ops:Array Oper} {n0:Nat} (ht:QjO ops n0) {Q1 Q:Exit->Act->Wy->Prop} (hq:∀ e a w,e≠.normal->Q1 e a w->Q e a w)
 (hn:∀ (fuel:Nat) (listed:Array Bool) (a:Act) (w:Wy),ops.size-n0<=fuel->listed.size=ops.size->(∀ i,i<n0->listed.getD i false=true)->(∀ i,n0<=i->listed.getD i false=false)->Q1 .normal a w->Qbh P .any ops Q fuel listed a w) :
 ∀ (fuel:Nat) (l1 listed:Array Bool) (a:Act) (w:Wy),l1.size=n0->listed.size=ops.size->(∀ i,i<n0->l1.getD i false=listed.getD i false)->(∀ i,n0<=i->listed.getD i false=false)->(∀ j o,listed.getD j false=true->ops[j]? = some o->∀ e∈o.after,Region.binds .any e=true->listed.getD e.on false=true) ->
  Qbh P .any (ops.extract 0 n0) Q1 fuel l1 a w->Qbh P .any ops Q (fuel+(ops.size-n0)) listed a w:=by
 have hx:∀ i,(ops.extract 0 n0)[i]? = if i<n0 then ops[i]? else none:=by
  intro i;rw[Array.getElem?_extract];have:=ht.le;by_cases h:i<n0
  . rw[Wb h,Wb (by omega)]; simp
  . rw[Wa h,Wa (by omega)]
 have hxs:(ops.extract 0 n0).size=n0:=by have:=ht.le; simp; omega
 have hedge1:∀ i o,(ops.extract 0 n0)[i]? = some o->∀ e∈o.after,Region.binds .any e=true->e.on<i:=by
  intro i o ho;rw[hx]at ho;split at ho
  . exact ht.edge i o ho
  . cases ho
 intro fuel
 induction fuel with
 |zero =>
  intro l1 listed a w hs1 hs hl hu hcl h;obtain⟨hr,hqn⟩:=h;have hall:=QgI hedge1 (by omega) hr;exact hn _ listed a w (by omega) hs (λi hi=>by rw[<-hl i hi]; exact hall i (by omega)) hu hqn
 |succ fuel ih =>
  intro l1 listed a w hs1 hs hl hu hcl h;obtain⟨h1,h2⟩:=h;by_cases hr:Region.ready .any (ops.extract 0 n0) l1=[]
  . have hall:=QgI hedge1 (by omega) hr;exact hn _ listed a w (by omega) hs (λi hi=>by rw[<-hl i hi]; exact hall i (by omega)) hu (h1 hr)
  . have hle:=ht.le;have hsome:∃ i,i<n0/\listed.getD i false=false:=by
     obtain⟨i,hi⟩:=List.exists_mem_of_ne_nil _ hr;rw[mem_ready]at hi;obtain⟨g1,o,ho,_⟩:=hi;rw[hx]at ho;by_cases hin:i<n0
     . rw[Qet (by omega)]at g1;exact⟨i,hin,by rw[<-hl i hin]; exact g1⟩
     . rw[Wa hin]at ho; cases ho
    have hfu:fuel+1+(ops.size-n0)=(fuel+(ops.size-n0))+1:=by omega
    rw[hfu];refine⟨λhr2 => ?_,λi hi => ?_⟩
    . obtain⟨i,hin,hi⟩:=hsome;have:=QgI ht.edge hs hr2 i (by omega);rw[hi]at this; cases this
    . rw[mem_ready]at hi;obtain⟨g1,o,ho,hdeps⟩:=hi;have hin:i<n0:=by
       by_cases hin:i<n0
       . exact hin
       . obtain⟨k,hk,hku⟩:=hsome;have:=Qlu (L:=λt=>listed.getD t false=true) hcl ops.size i k o ho (λe he hb=>hdeps e he hb) (ht.all i o (by omega) ho k hk);rw[hku]at this; cases this
      have hi1:i∈Region.ready .any (ops.extract 0 n0) l1:=by
       rw[mem_ready];rw[Qet (by omega)]at g1;refine⟨by rw[Qet (by omega),hl i hin]; exact g1,o,by rw[hx,Wb hin]; exact ho,λe he hb => ?_⟩;rw[hl e.on (by have:=ht.edge i o ho e he hb; omega)];exact hdeps e he hb
      have h3:=h2 i hi1;have hnext:∀ a' w',Qbh P .any (ops.extract 0 n0) Q1 fuel (l1.setIfInBounds i true) a' w'->Qbh P .any ops Q (fuel+(ops.size-n0)) (listed.setIfInBounds i true) a' w':=by
       intro a' w' h4;refine ih _ _ a' w' (by simpa using hs1) (by simpa using hs) (λk hk => ?_) (λk hk => ?_) (λm om hm hom e he hb => ?_) h4
       . rw[Qek (by omega),Qek (by omega),hl k hk]
       . rw[Qek (by omega),Wa (by omega)]; exact hu k hk
       . rw[Qek (by omega)]at hm ⊢;by_cases hei:e.on=i
         . rw[Wb hei]
         . rw[Wa hei];by_cases hmi:m=i
           . subst hmi;rw[ho]at hom; cases hom
             exact hdeps e he hb
           . rw[Wa hmi]at hm;exact hcl m om hm hom e he hb
      unfold Qbl at h3 ⊢;rw[ho];rw[hx,Wb hin,ho]at h3;simp only at h3 ⊢;have hw:Region.wanted o (yielded (ops.extract 0 n0) a.tmps)=Region.wanted o (yielded ops a.tmps):=by
       unfold Region.wanted
       cases hg:o.guard with
       |none=>rfl
       |some gw =>
        obtain⟨g,wnt⟩:=gw;have hgn:=ht.guard i o hin ho g wnt hg;simp only[yielded,hx,Wb hgn]
      rw[hw]at h3;split at h3
      . rename_i hwt;rw[Wb hwt];exact Oper.wq_mono hnext hq h3
      . rename_i hwt;rw[Wa hwt];exact hnext _ _ h3
theorem Qnv {ops:Array Oper} {Q:Exit->Act->Wy->Prop} {i:Nat} {o:Oper} {a:Act} {w:Wy} {next:Act->Wy->Prop} (ho:ops[i]? = some o) (h:Qev P ops o a w next Q):Qbl P ops Q i next a w:=by
 unfold Qbl;rw[ho];simp only;unfold Qev at h;split
 . rename_i hw; rw[Wb hw]at h; exact h
 . rename_i hw; rw[Wa hw]at h; exact h
theorem QlO {N:Nat} {ops:Array Oper} {n0:Nat} (ht:QgP ops n0) {S:St} {db:DB} {K:Wr} :
 ∀ (tl:List Ins) (fuel j:Nat) (listed:Array Bool) (S':St) (env:Env) (a:Act),n0<=j->j+tl.length=ops.size->tl.length<=fuel->listed.size=ops.size->(∀ i,i<j->listed.getD i false=true)->(∀ i,j<=i->listed.getD i false=false) ->
  chkL P N ops (ops.toList.drop j) tl=true->Ext S.H.length S S'->Sim S'->QB S' env a.tmps->a.tmps.size=N->db.Ok S'.w a.defers->QaC P tl env S'.H K->Qbh P .any ops (QM S N db K) fuel listed a S'.w
 |[],fuel,j,listed,S',env,a,hj,hlen,hf,hs,hl,hu,hc,he,hS,henv,hN,hd,hx=>by
  have hp:QM S N db K .normal a S'.w:=⟨.normal,env,S'.ρ,S'.H,trivial,he,hS,henv,hN,hd,hx⟩;have hr:∀ i,i∉Region.ready .any ops listed:=by
   intro i hi;rw[mem_ready]at hi;obtain⟨g1,o,ho,_⟩:=hi;have hlt:=(VU.1 ho).1;rw[Qet (by omega),hl i (by simp at hlen; omega)]at g1; cases g1
  cases fuel with
  |zero=>exact⟨Z7.2 hr,hp⟩
  |succ n=>exact⟨λ_=>hp,λi hi=>absurd hi (hr i)⟩
 |o'::tl,fuel,j,listed,S',env,a,hj,hlen,hf,hs,hl,hu,hc,he,hS,henv,hN,hd,hx=>by
  simp only[VT]at hlen hf;obtain⟨f,rfl⟩:∃ f,fuel=f+1:=⟨fuel-1,by omega⟩;have hjl:j<ops.size:=by omega
  refine⟨λhr => ?_,λi hi => ?_⟩
  . have:=QgI ht.edge hs hr j hjl;rw[hu j (Vc _)]at this; cases this
  . rw[mem_ready]at hi;obtain⟨g1,o,ho,hdeps⟩:=hi;have hlt:=(VU.1 ho).1;rw[Qet (by omega)]at g1;have hij:i=j:=by
     rcases Ym i j with h|h|h
     . rw[hl i h]at g1; cases g1
     . exact h
     . have:=Qlu (L:=λt=>t<j) (λm om hm hom e he hb=>by have:=ht.edge m om hom e he hb; omega) ops.size i j o ho (λe hem hb=>by
        have h7:=hdeps e hem hb;by_cases h8:e.on<j
        . exact h8
        . rw[hu e.on (by omega)]at h7; cases h7) (ht.all i o (by omega) ho j h)
       exact absurd this (Nat.lt_irrefl _)
    subst hij;have hdrop:ops.toList.drop i=o::ops.toList.drop (i+1):=by
     rw[Vu (by simpa using hlt)];congr 1;rw[Yg hlt]at ho;simpa using ho
    rw[hdrop]at hc;simp only[chkL,Va]at hc;refine Qnv ho (QdL (Q:=QM S N db K) hS henv hN hd hc.1 (by simpa only[QaC]using hx) ?_ ?_)
    . rintro a' w' ⟨x,env',ρ',H',hx',hext,hsim,henv',hN',hd',hk⟩
      cases x<;>simp only[ER]at hx'
      refine QlO ht tl f (i+1) _ ⟨ρ',H',w'⟩ env' a' (by omega) (by omega) (by omega) (by simpa using hs) (λk hk => ?_) (λk hk => ?_) hc.2 (he.trans (hext.mono (he.len (Vc _)))) hsim henv' hN' hd' hk
      . rw[Qek (by omega)];split
        . rfl
        . exact hl k (by omega)
      . rw[Qek (by omega),Wa (by omega)]; exact hu k (by omega)
    . rintro ch a' w' ⟨x,env',ρ',H',hx',hext,hsim,henv',hN',hd',hk⟩
      cases x<;>simp only[ER]at hx'
      exact⟨.panic _,env',ρ',H',hx',he.trans (hext.mono (he.len (Vc _))),hsim,henv',hN',hd',hk⟩
end
end
end Go.Ab
