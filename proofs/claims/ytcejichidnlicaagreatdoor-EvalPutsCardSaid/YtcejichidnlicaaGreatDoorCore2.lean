/-
  Steps of the proof: contracts of functions and plain facts that the statement rests on.
-/
import Derived.Test.YtcejichidnlicaaGreatDoorCore1
import Derived.Laws.BytesString
import Derived.Laws.Append
import Derived.Laws.AppendOwn
import Derived.Laws.MakeOwn
import Derived.Laws.IdiomStrings
import Derived.Deep.Upon
import Derived.Laws.Cover3
import Derived.RangeFuncLeaves
import Derived.RangeFuncRecord
import Derived.Orders
import Derived.Conc.MuLone
set_option linter.all false
namespace Go.Ab
open Go.MapKept (run_setObj_map run_checkKey run_findKey run_keyThatStays)
variable [GlobEnv] [FrEnv] [KnEnv]
section
variable {P:Program} {S:St} {e:Env} {a:Act}
theorem VR.fn_of {f:Fn} {x y:List SV} {us vs:List Value} (h:VRs S x us) (h':VRs S y vs):VR S (.fn f x y) (.func f us.toArray vs.toArray):=.fn f x y us vs h.1 h.2 h'.1 h'.2
theorem VR.slen_spec {x:SV} {v:Value} (hx:VR S x v) (hs:x.isSl=true):∃ ad cap,v=.slice ad x.slen cap:=by
 cases hx with
 | slc=>exact⟨_,_,rfl⟩
 | nilslc=>exact⟨_,_,rfl⟩
 | own=>exact⟨_,_,rfl⟩
 | val v =>
  have:v=.slice none 0 0:=by cases v<;>simp[SV.isSl]at hs; rename_i a b c; revert hs; cases a<;>cases b<;>cases c<;>simp
  subst this; exact⟨_,_,rfl⟩
 | _=>simp[SV.isSl]at hs
theorem map_list (f:Operand->Value) (as:Array Operand):as.map f=(as.toList.map f).toArray:=by cases as; simp
theorem VR.fn_inv {f:Fn} {x y:List SV} {v:Value} (h:VR S (.fn f x y) v):∃ us vs,v=.func f us.toArray vs.toArray∧VRs S x us∧VRs S y vs:=by
 cases h with
 | fn f x y us vs hl h hl' h'=>exact⟨us,vs,rfl,⟨hl,h⟩,⟨hl',h'⟩⟩
theorem run_eq_if_nil (d:Nat) {w:World} {t:TypeId} {ms:Array (String×TypeId)} (h:P.underlying t=some (.interface ms)) (t':TypeId) (v:Value):(Op.equalIn (d+1) t (.iface t' v) .nilIface).run P w=.ok false w:=by
 simp[Op.equalIn,run_underlying h]
theorem run_eq_nil_if (d:Nat) {w:World} {t:TypeId} {ms:Array (String×TypeId)} (h:P.underlying t=some (.interface ms)) (t':TypeId) (v:Value):(Op.equalIn (d+1) t .nilIface (.iface t' v)).run P w=.ok false w:=by
 simp[Op.equalIn,run_underlying h]
theorem run_eq_nil_nil (d:Nat) {w:World} {t:TypeId} {ms:Array (String×TypeId)} (h:P.underlying t=some (.interface ms)):(Op.equalIn (d+1) t .nilIface .nilIface).run P w=.ok true w:=by
 simp[Op.equalIn,run_underlying h]
theorem run_eq_fn_nil (d:Nat) {w:World} {t:TypeId} {ps rs:Array TypeId} {vr:Bool} (h:P.underlying t=some (.func ps rs vr)) (f:Fn) (u v:Array Value):(Op.equalIn (d+1) t (.func f u v) .nilFunc).run P w=.ok false w:=by
 simp[Op.equalIn,run_underlying h]
theorem run_eq_nil_fn (d:Nat) {w:World} {t:TypeId} {ps rs:Array TypeId} {vr:Bool} (h:P.underlying t=some (.func ps rs vr)) (f:Fn) (u v:Array Value):(Op.equalIn (d+1) t .nilFunc (.func f u v)).run P w=.ok false w:=by
 simp[Op.equalIn,run_underlying h]
theorem run_eq_nilf_nil (d:Nat) {w:World} {t:TypeId} {ps rs:Array TypeId} {vr:Bool} (h:P.underlying t=some (.func ps rs vr)):(Op.equalIn (d+1) t .nilFunc .nilFunc).run P w=.ok true w:=by
 simp[Op.equalIn,run_underlying h]
theorem zeroV_spec {t:TypeId} {z:SV} (h:zeroV P t z=true):∃ zv,(∀ w:World,(zeroValue t).run P w=.ok zv w)∧VR S z zv:=by
 unfold zeroV at h
 split at h
 · rename_i i hi
   split at h
   · rename_i zv hz
     refine⟨zv,fun w=>by simp[zeroValue,typeInfo,hi,hz],?_⟩
     split at h
     · rename_i l vs
       rw[Bool.and_eq_true,decide_eq_true_eq,List.all_eq_true]at h
       obtain⟨h1,h2⟩:=h
       have:VR S (.agg l) (.agg vs.toList.toArray):=.agg l vs.toList h1 fun j s u hj hu=>by
        have:=h2 (s,u) (List.mem_of_getElem? (i:=j) (by rw[List.getElem?_zip_eq_some]; exact⟨hj,hu⟩))
        exact constB_spec this
       simpa using this
     · cases h
     · exact constB_spec h
   · cases h
 · cases h
theorem constL_spec:∀ {cs:List SV} {us:List Value},constL cs us=true->VRs S cs us
 | [],[],_=>VRs.nil S
 | s::r,v::vs,h=>by simp only[constL,Bool.and_eq_true]at h; exact VRs.cons (constB_spec h.1) (constL_spec h.2)
 | [],_::_,h=>by simp[constL]at h
 | _::_,[],h=>by simp[constL]at h
theorem mapB_spec {t:TypeId} {kk:KK} {z:SV} (h:mapB P t kk z=true):∃ kt et,P.underlying t=some (.map kt et)∧P.underlying kt=some kk.desc∧zeroV P et z=true∧kk.szB P=true:=by
 unfold mapB at h
 split at h
 · rename_i kt et hu
   rw[Bool.and_eq_true]at h
   have h1:=h.1
   have key:P.underlying kt=some kk.desc∧kk.szB P=true:=by
    split at h1
    · rename_i hk; cases kk<;>simp at h1; exact⟨hk,rfl⟩
    · rename_i k hk; cases kk<;>simp at h1; subst h1; exact⟨hk,rfl⟩
    · rename_i hk; cases kk<;>simp at h1; exact⟨hk,rfl⟩
    · rename_i e hk
      cases kk<;>simp at h1
      obtain⟨rfl,h2⟩:=h1
      exact⟨hk,h2⟩
    · rename_i n t' hk
      cases kk<;>simp at h1
      obtain⟨⟨rfl,rfl⟩,h2⟩:=h1
      exact⟨hk,h2⟩
    · cases h1
   exact⟨kt,et,hu,key.1,h.2,key.2⟩
 · cases h
theorem mapOf_spec (hS:Sim S) {s:SV} {v:Value} (h:VR S s v) {x:List Value×List SV} (hm:s.mapOf S.H=some x) :
 ∃ es:Array MapEntry,((v=.map none∧es = #[])∨∃ r cl,v=.map (some r)∧S.w.heap[r]? = some (Obj.map es cl))∧x.1=es.toList.map (·.key)∧VRs S x.2 (es.toList.map (·.val)):=by
 cases h with
 | val v =>
  cases v<;>simp[SV.mapOf]at hm
  rename_i b
  cases b with
  | none=>simp at hm; subst hm; exact⟨#[],.inl ⟨rfl,rfl⟩,rfl,VRs.nil S⟩
  | some b=>simp at hm
 | mp i ver l o ho hv hat =>
  simp only[SV.mapOf,ho]at hm
  split at hm
  · rename_i hcond
    split at hm
    · rename_i ks vs hcells
      cases hm
      have ho2:S.H[i]? = some ⟨.mk ks::vs,o.ty,o.ver,false⟩:=by
       rw[ho]; congr 1
       obtain⟨c,t,vv,lv⟩:=o
       simp only at hcells hcond ⊢
       rw[hcells,hcond.1]
      obtain⟨l',es,cl,h1,h2,h3,h4⟩:=hS.map ho2
      rw[hat hcond.2]at h1; cases h1
      exact⟨es,.inr ⟨l,cl,rfl,h2⟩,h3,h4⟩
    · cases hm
  · cases hm
 | mpf vs l es cl us hb hn hu hl h =>
  simp only[SV.mapOf]at hm
  cases hm
  subst hu
  exact⟨es,.inr ⟨l,cl,rfl,hb⟩,rfl,hl,h⟩
 | _=>simp[SV.mapOf]at hm
theorem u8n_inv {x:SV} {n:Int} {u:Value} (h:x.u8n=some n) (hv:VR S x u):u=.int .u8 n:=by
 unfold SV.u8n at h
 split at h
 · cases h; cases hv; rfl
 · cases h
theorem run_bys (hS:Sim S) {x:SV} {v:Value} (hx:VR S x v) (hsl:x.isSl=true) (hb:bysB (x.row S.H) x.slen=true) {sT dT el:TypeId} (hu:P.underlying sT=some (.slice el)) (hel:P.underlying el=some (.int .u8)) (hd:P.underlying dT=some .string) :
 (convert sT dT v).run P S.w=.ok (.string (bysS ((x.row S.H).take x.slen))) S.w:=by
 unfold bysB at hb
 rw[Bool.and_eq_true,decide_eq_true_eq,List.all_eq_true]at hb
 obtain⟨hlen,hall⟩:=hb
 have some_:∀ (ad:Addr) (cap:Nat),v=.slice (some ad) x.slen cap->(∀ j,j<x.slen->VR S (.ptr x j) (.pointer (some (ad.add j))))->(convert sT dT v).run P S.w=.ok (.string (bysS ((x.row S.H).take x.slen))) S.w:=by
  intro ad cap hv hp
  subst hv
  rw[run_convert_bytes_string S.w sT dT el (some ad) x.slen cap hu hel hd]
  have hcell:∀ (j:Nat) (u:Value),((bysL ((x.row S.H).take x.slen)).map (Value.int .u8))[j]? = some u->S.w.cell? (ad.add j)=some u:=by
   intro j u hj
   have hbl:∀ l:List SV,bysL l=l.map fun s=>s.u8n.getD 0:=by
    intro l; induction l with
    | nil=>rfl
    | cons a r ih=>rw[bysL,ih]; rfl
   rw[hbl,List.map_map,List.getElem?_map,Option.map_eq_some_iff]at hj
   obtain⟨c,hc,rfl⟩:=hj
   have hjl:j<x.slen:=by
    have:=getElem?_lt hc
    simp at this; omega
   have hc2:(x.row S.H)[j]? = some c:=by rw[List.getElem?_take_of_lt hjl]at hc; exact hc
   obtain⟨ad',u',h1,h2,h3⟩:=(hp j hjl).at hS (j:=0) (c:=c) (by simp only[SV.at,List.getElem?_drop]; simpa using hc2)
   cases h1
   have h4:=hall c (List.mem_of_getElem? hc)
   obtain⟨n,hn⟩:=Option.isSome_iff_exists.1 h4
   have h5:=u8n_inv hn h3
   rw[add_add,Nat.add_zero]at h2
   simp only[Function.comp,hn,Option.getD_some]
   rw[h2,h5]
  have hl:=run_loadCells_list (P:=P) S.w ad _ hcell
  have hln:((bysL ((x.row S.H).take x.slen)).map (Value.int .u8)).length=x.slen:=by
   have hbl:∀ l:List SV,(bysL l).length=l.length:=by
    intro l; induction l with
    | nil=>rfl
    | cons a r ih=>simp[bysL,ih]
   rw[List.length_map,hbl,List.length_take]; omega
  rw[hln]at hl
  exact run_bytesToString S.w ad x.slen cap _ hl
 have none_:∀ cap,v=.slice none 0 cap->x.slen=0->(convert sT dT v).run P S.w=.ok (.string (bysS ((x.row S.H).take x.slen))) S.w:=by
  intro cap hv h0
  subst hv
  rw[run_convert_bytes_string S.w sT dT el none 0 cap hu hel hd,h0]
  rfl
 cases hx with
 | slc cells len ad cap us hc hl hi h =>
  refine some_ ad cap rfl fun j hj => ?_
  exact .ptrI cells len _ ad us hl hi h
 | nilslc=>exact none_ 0 rfl rfl
 | own i off len sz' ver ad cap o ho hv hc hz h =>
  cases ad with
  | none =>
   have h0:=hz rfl
   subst h0
   exact none_ cap rfl rfl
  | some ad =>
   refine some_ ad cap rfl fun j hj=>.ptrO i off len sz' ver _ _ o ho hv fun e => ?_
   have h2:=h e
   unfold St.OwnAt at h2
   cases hρ:S.ρ i with
   | none=>rw[hρ]at h2; obtain⟨h2,_⟩:=h2; simp only[SV.slen]at hj; omega
   | some b =>
    rw[hρ]at h2
    simp only[SV.slen]at hj
    rcases h2 with h2 | ⟨h2,_⟩
    · omega
    · cases h2
      refine⟨b,rfl,?_⟩
      unfold Addr.add; split
      · rename_i h3; simp
      · rfl
 | val v =>
  cases v<;>simp[SV.isSl]at hsl
  rename_i a len cap
  cases a with
  | none =>
   have h2:len=0∧cap=0:=by
    cases len<;>cases cap<;>simp_all
   obtain⟨rfl,rfl⟩:=h2
   exact none_ 0 rfl rfl
  | some a=>simp at hsl
 | _=>simp[SV.isSl]at hsl
theorem pure_sound (hS:Sim S) (he:EnvR S e a.tmps) {o:Oper} {i:I} (hc:chkI P o.op i=true) (hs:(pv i e.ev S.H).1) :
 ∃ v,(execOp a.eval o).run P S.w=.ok (.value v) S.w∧VR S (pv i e.ev S.H).2 v:=by
 generalize hop:o.op=op at hc
 have fin:∀ (m:Sem Value) (s:SV),(∃ v,m.run P S.w=.ok v S.w∧VR S s v) →
  ∃ v,(do pure (Next.value (← m)):Sem Next).run P S.w=.ok (.value v) S.w∧VR S s v:=by
  rintro m s ⟨v,h1,h2⟩; exact⟨v,by simp[h1],h2⟩
 cases i with
 | eqf neg ks x' y' =>
  simp only[chkI]at hc
  split at hc
  · rename_i op2 t x y yt
    rw[Bool.and_eq_true,Bool.and_eq_true,Bool.and_eq_true]at hc
    obtain⟨⟨⟨h1,h2⟩,h3⟩,h4⟩:=hc
    simp only[pv]at hs ⊢
    simp only[execOp,hop]
    split at hs
    · rename_i l m hl hm
      simp only[]
      obtain⟨g1,g2,g3⟩:=hs
      have k1:=(chkOd_spec h1 he).ug g1
      have k2:=(chkOd_spec h2 he).ug g2
      rw[hl]at k1; rw[hm]at k2
      obtain⟨us,hu,hus⟩:=k1.agg_inv
      obtain⟨vs,hv,hvs⟩:=k2.agg_inv
      unfold flatT at h3
      rw[Bool.and_eq_true,Bool.not_eq_true']at h3
      obtain⟨q2,q3⟩:=h3
      have done:(Op.equal t (.agg us.toArray) (.agg vs.toArray)).run P S.w=.ok (eqAll ks l m) S.w →
       ∃ v,(execOp a.eval o).run P S.w=.ok (.value v) S.w∧VR S (bl (if neg=true then !eqAll ks l m else eqAll ks l m)) v:=by
       intro heq
       simp only[execOp,hop]
       refine fin _ _ ⟨_,?_,.val _⟩
       rw[hu,hv]
       cases neg with
       | true =>
        simp at h4; subst h4
        simp[eqGuard,q2,binOp,heq]
       | false =>
        simp at h4; subst h4
        simp[eqGuard,q2,binOp,heq]
      simp only[execOp,hop]at done
      split at q3
      · rename_i fs hst
        rw[Bool.and_eq_true,Bool.not_eq_true']at q3
        obtain⟨q1,q3⟩:=q3
        have hfo:P.fieldsOf t=fs:=by simp[Program.fieldsOf,hst]
        have hrun:=run_equalIn_struct (P:=P) S.w 9999 t us.toArray vs.toArray (by rw[hfo]; exact hst) q1
        rw[hfo,eqFields_sound (S:=S) 9998 S.w fs.toList ks 0 l m us vs q3 hus hvs (by simp) (by simp) g3]at hrun
        exact done hrun
      · rename_i n el hst
        rw[Bool.and_eq_true,Bool.and_eq_true,decide_eq_true_eq,List.all_eq_true]at q3
        obtain⟨⟨q4,q5⟩,q6⟩:=q3
        obtain⟨inf,hinf,hsz⟩:∃ inf,P.info? el=some inf∧inf.size=1:=by
         unfold sizeB at q5
         split at q5
         · rename_i i hi; exact⟨i,hi,by simpa using q5⟩
         · cases q5
        have hco:P.cellsOf el=1:=by simp[Program.cellsOf,hinf,hsz]
        have hrun:=run_equalIn_array (P:=P) S.w 9999 us.toArray vs.toArray hst hinf
        rw[hco,List.range_eq_range',<- q4,eqItems_sound (S:=S) 9998 S.w ks 0 l m us vs q6 hus hvs (by simp) (by simp) g3]at hrun
        exact done hrun
      · cases q3
    · exact hs.elim
  · cases hc
 | mov y =>
  simp only[chkI]at hc
  split at hc
  · exact⟨_,by simp only[execOp,hop]; rfl,chkOd_spec hc he⟩
  · exact⟨_,by simp only[execOp,hop]; rfl,chkOd_spec hc he⟩
  · cases hc
 | pick c' a' b' =>
  simp only[chkI]at hc
  split at hc
  · rename_i c x y
    simp only[Bool.and_eq_true]at hc
    obtain⟨⟨h1,h2⟩,h3⟩:=hc
    simp only[pv]at hs ⊢
    obtain⟨g1,g2,g3⟩:=hs
    have e1:=(chkOd_spec h1 he).isB g1
    have e2:=chkOd_spec h2 he
    have e3:=chkOd_spec h3 he
    simp only[execOp,hop]
    cases hb:(e.ev c').bool with
    | true =>
     have e4:=e2.isB (g2 hb)
     refine⟨.bool (e.ev a').bool,?_,.val _⟩
     simp[asBool,e1,hb,e4]
    | false =>
     have e4:=e3.isB (g3 hb)
     refine⟨.bool (e.ev b').bool,?_,.val _⟩
     simp[asBool,e1,hb,e4]
  · cases hc
 | bin op' k x' y' =>
  simp only[chkI]at hc
  split at hc
  · rename_i op2 t x y yt
    simp only[Bool.and_eq_true,beq_iff_eq]at hc
    obtain⟨⟨⟨h1,h2⟩,h3⟩,h4⟩:=hc
    subst h1
    simp only[pv]at hs ⊢
    simp only[execOp,hop]
    refine fin _ _ (pbin_sound h4 (chkOd_spec h2 he) (chkOd_spec h3 he) ⟨?_,?_⟩ hs)
    · rintro rfl
      simp only[chkBin,Bool.and_eq_true,if_true]at h4
      have:=h4.2
      split at this
      · rfl
      · cases this
    · rintro rfl
      simp only[chkBin,Bool.and_eq_true,Bool.false_eq_true,if_false]at h4
      have:=h4.2
      split at this
      · rfl
      · cases this
  · cases hc
 | neg k x' =>
  simp only[chkI]at hc
  split at hc
  · have h1:=(chkOd_spec hc he).isI hs
    refine⟨_,?_,.val _⟩
    simp[execOp,hop,h1,Op.unary,Op.intArith]
  · cases hc
 | not x' =>
  simp only[chkI]at hc
  split at hc
  · have h1:=(chkOd_spec hc he).isB hs
    refine⟨_,?_,.val _⟩
    simp[execOp,hop,h1,Op.unary]
  · cases hc
 | cvi k x' =>
  simp only[chkI]at hc
  split at hc
  · rename_i s d x
    simp only[Bool.and_eq_true]at hc
    obtain⟨⟨h1,h2⟩,h3⟩:=hc
    obtain⟨ds,hds⟩:=Option.isSome_iff_exists.1 h2
    obtain⟨k',hk⟩:=(chkOd_spec h1 he).isN hs
    split at h3
    · rename_i k2 hd
      simp at h3; subst h3
      refine⟨_,?_,.val _⟩
      simp[execOp,hop,hk,convert,run_underlying hds,run_underlying hd,Conv.intToInt]
    · cases h3
  · cases hc
 | rst x' =>
  simp only[chkI]at hc
  split at hc
  · rename_i s d x
    simp only[Bool.and_eq_true]at hc
    obtain⟨⟨h1,h2⟩,h3⟩:=hc
    obtain⟨ds,hds⟩:=Option.isSome_iff_exists.1 h2
    obtain⟨k',hk⟩:=(chkOd_spec h1 he).isN hs
    split at h3
    · rename_i hd
      refine⟨_,?_,.val _⟩
      simp[execOp,hop,hk,convert,run_underlying hds,run_underlying hd,Conv.intToString]
    · cases h3
  · cases hc
 | ld1 p =>
  simp only[chkI]at hc
  split at hc
  · simp only[Bool.and_eq_true]at hc
    simp only[pv]at hs ⊢
    simp only[execOp,hop]
    exact fin _ _ (run_ld1 hS ((chkOd_spec hc.1 he).ug hs.1) hc.2 hs.2)
  · cases hc
 | ldn n p =>
  simp only[chkI]at hc
  split at hc
  · simp only[Bool.and_eq_true]at hc
    simp only[pv]at hs ⊢
    simp only[execOp,hop]
    exact fin _ _ (run_ldn hS ((chkOd_spec hc.1.1 he).ug hs.1) hc.1.2 hc.2 hs.2.1 hs.2.2)
  · cases hc
 | fa off p =>
  simp only[chkI]at hc
  split at hc
  · rename_i s x f
    rw[Bool.and_eq_true]at hc
    simp only[pv]at hs ⊢
    simp only[execOp,hop]
    split at hs
    · rename_i s' k hp
      simp only[]
      have h1:=(chkOd_spec hc.1 he).ug hs
      rw[hp]at h1
      obtain⟨ad,h2,h3⟩:=ptr_add (off:=off) h1
      refine fin _ _ ⟨_,?_,h3⟩
      rw[h2]
      exact run_fieldAt hc.2 _
    · exact hs.elim
  · cases hc
 | fld1 off x' =>
  simp only[chkI]at hc
  split at hc
  · simp only[Bool.and_eq_true]at hc
    simp only[pv]at hs ⊢
    simp only[execOp,hop]
    split at hs
    · rename_i l hl
      simp only[]
      exact fin _ _ ((run_field (chkOd_spec hc.1.1 he) hs.1 hl hc.1.2 hc.2 S.w).1 rfl hs.2)
    · exact hs.elim
  · cases hc
 | fldn off n x' =>
  simp only[chkI]at hc
  split at hc
  · simp only[Bool.and_eq_true]at hc
    simp only[pv]at hs ⊢
    simp only[execOp,hop]
    split at hs
    · rename_i l hl
      simp only[]
      exact fin _ _ ((run_field (chkOd_spec hc.1.1 he) hs.1 hl hc.1.2 hc.2 S.w).2 rfl)
    · exact hs.elim
  · cases hc
 | ia sz s j =>
  simp only[chkI]at hc
  split at hc
  · simp only[Bool.and_eq_true]at hc
    simp only[pv]at hs ⊢
    simp only[execOp,hop]
    obtain⟨g1,g2,g3,g4,g5⟩:=hs
    obtain⟨k,hk⟩:=(chkOd_spec hc.1.2 he).isN g3
    rw[hk]
    exact fin _ _ (run_indexAt ((chkOd_spec hc.1.1 he).ug g1) g2 hc.2 g4 g5)
  · cases hc
 | gix g len sz cs j =>
  simp only[chkI]at hc
  split at hc
  · rename_i t g' ix
    rw[Bool.and_eq_true,Bool.and_eq_true,Bool.and_eq_true,beq_iff_eq]at hc
    obtain⟨⟨⟨rfl,h2⟩,h1⟩,h3⟩:=hc
    simp only[pv]at hs ⊢
    simp only[execOp,hop]
    split at h3
    · rename_i n el hu
      simp only[Bool.and_eq_true,beq_iff_eq]at h3
      obtain⟨g2,g3,g4⟩:=hs
      unfold varB at h1
      split at h1
      · rename_i us hg
        have hc:=constL_spec (S:=S) h1
        obtain⟨kk,hk⟩:=(chkOd_spec h2 he).isN g2
        refine fin _ _ ⟨_,?_,.ptrI cs cs.length _ ⟨g',0,none⟩ us hc.1 (hS.gl g' us hg).1 hc.2⟩
        rw[hk]
        exact run_iap hu h3.2 ⟨g',0,none⟩ g3 (by rw[h3.1]; exact g4) S.w
      · cases h1
    · cases h3
  · cases hc
 | iap len sz p j =>
  simp only[chkI]at hc
  split at hc
  · rename_i t x ix
    rw[Bool.and_eq_true,Bool.and_eq_true]at hc
    obtain⟨⟨h1,h2⟩,h3⟩:=hc
    simp only[pv]at hs ⊢
    simp only[execOp,hop]
    split at h3
    · rename_i n el hu
      simp only[Bool.and_eq_true,beq_iff_eq]at h3
      split at hs
      · rename_i s' k hp
        simp only[]
        obtain⟨g1,g2,g3,g4⟩:=hs
        have h4:=(chkOd_spec h1 he).ug g1
        rw[hp]at h4
        obtain⟨ad,h5,h6⟩:=ptr_add (off:=(e.ev j).int.toNat*sz) h4
        obtain⟨kk,hk⟩:=(chkOd_spec h2 he).isN g2
        refine fin _ _ ⟨_,?_,h6⟩
        rw[h5,hk]
        exact run_iap hu h3.2 ad g3 (by rw[h3.1]; exact g4) S.w
      · exact hs.elim
    · cases h3
  · cases hc
 | ixs s j =>
  simp only[chkI]at hc
  split at hc
  · rename_i t x ix
    rw[Bool.and_eq_true,Bool.and_eq_true]at hc
    obtain⟨⟨h1,h2⟩,h3⟩:=hc
    simp only[pv]at hs ⊢
    simp only[execOp,hop]
    split at h3
    · rename_i hu
      obtain⟨g1,g2,g3,g4⟩:=hs
      obtain⟨kk,hk⟩:=(chkOd_spec h2 he).isN g2
      have h4:=(chkOd_spec h1 he).isS g1
      refine fin _ _ ⟨_,?_,.val _⟩
      rw[h4,hk]
      exact run_ixs hu _ g3 g4 S.w
    · cases h3
  · cases hc
 | ixa len sz one s j =>
  simp only[chkI]at hc
  split at hc
  · rename_i t x ix
    rw[Bool.and_eq_true,Bool.and_eq_true]at hc
    obtain⟨⟨h1,h2⟩,h3⟩:=hc
    simp only[pv]at hs ⊢
    simp only[execOp,hop]
    split at h3
    · rename_i n el hu
      rw[Bool.and_eq_true,Bool.and_eq_true,beq_iff_eq]at h3
      split at hs
      · rename_i l hl
        simp only[]
        obtain⟨g1,g2,g3,g4,g5,g6⟩:=hs
        have h4:=(chkOd_spec h1 he).ug g1
        rw[hl]at h4
        obtain⟨us,h5,h6⟩:=h4.agg_inv
        obtain⟨kk,hk⟩:=(chkOd_spec h2 he).isN g2
        rw[h5,hk]
        exact fin _ _ (run_ixa hu h3.1.2 h3.2 h6 (by rw[h3.1.1]; exact g5) g6 g3 (by rw[h3.1.1]; exact g4))
      · exact hs.elim
    · cases h3
  · cases hc
 | sl sz x' lo' hi' =>
  simp only[chkI]at hc
  split at hc
  · simp only[Bool.and_eq_true]at hc
    obtain⟨⟨⟨h1,h2⟩,h3⟩,h4⟩:=hc
    simp only[pv]at hs ⊢
    simp only[execOp,hop]
    obtain⟨g1,g2,g3,g4,g5,g6,g7⟩:=hs
    obtain⟨el,hu,hsz⟩:=slB_spec h4
    exact fin _ _ (run_sl hu hsz ((chkOd_spec h1 he).ug g1) g2 h2 h3 he g4 g5 g6 g7 g3)
  · cases hc
 | sls x' lo' hi' =>
  simp only[chkI]at hc
  split at hc
  · rename_i t x lo hi
    rw[Bool.and_eq_true,Bool.and_eq_true,Bool.and_eq_true]at hc
    obtain⟨⟨⟨h1,h2⟩,h3⟩,h4⟩:=hc
    simp only[pv]at hs ⊢
    simp only[execOp,hop]
    obtain⟨g1,g4,g5,g6,g7⟩:=hs
    split at h4
    · rename_i hu
      have h5:=(chkOd_spec h1 he).isS g1
      refine fin _ _ ⟨_,?_,.val _⟩
      rw[h5]
      simp only[Instr.sliceAt,Instr.slice,Sem.run_bind,run_underlying hu,Result.andThen_ok]
      rw[if_neg (by simp)]
      simp only[Sem.run_bind,run_bounds (P:=P) (isS:=false) h2 h3 he g4 g5 g6 g7 (Nat.le_refl _) S.w,Result.andThen_ok,Sem.run_pure]
    · cases h4
  · cases hc
 | sla n sz p lo' hi' =>
  simp only[chkI]at hc
  split at hc
  · rename_i t x lo hi
    rw[Bool.and_eq_true,Bool.and_eq_true,Bool.and_eq_true]at hc
    obtain⟨⟨⟨h1,h2⟩,h3⟩,h4⟩:=hc
    simp only[pv]at hs ⊢
    simp only[execOp,hop]
    obtain⟨g1,g2,g3,g4,g5,g6,g7⟩:=hs
    split at h4
    · rename_i n' el hu
      simp only[Bool.and_eq_true,beq_iff_eq]at h4
      obtain⟨rfl,hsz⟩:=h4
      exact fin _ _ (run_sla hS hu hsz ((chkOd_spec h1 he).ug g1) h2 h3 he g2 g3 g4 g5 g6 g7)
    · cases h4
  · cases hc
 | ext x' j =>
  simp only[chkI]at hc
  split at hc
  · simp only[Bool.and_eq_true,beq_iff_eq]at hc
    obtain⟨h1,rfl⟩:=hc
    simp only[pv]at hs ⊢
    simp only[execOp,hop]
    split at hs
    · rename_i l hl
      simp only[]
      have h4:=(chkOd_spec h1 he).ug hs.1
      rw[hl]at h4
      obtain⟨us,h5,h6⟩:=h4.tup_inv
      obtain⟨u,h7,h8⟩:=h6.getD hs.2
      refine fin _ _ ⟨u,?_,h8⟩
      simp[h5,Instr.extract,h7]
    · exact hs.elim
  · cases hc
 | len x' =>
  simp only[chkI]at hc
  split at hc
  · rename_i as ts
    split at hc
    · rename_i x t ha ht
      rw[Bool.and_eq_true]at hc
      obtain⟨h1,h2⟩:=hc
      split at h2
      · rename_i el hu
        simp only[pv]at hs ⊢
        obtain⟨ad,cap,hv⟩:=((chkOd_spec h1 he).ug hs.1).slen_spec hs.2
        refine⟨_,?_,.val _⟩
        have ha':as = #[x]:=by rw[←ha]
        have ht':ts = #[t]:=by rw[←ht]
        subst ha' ht'
        simp[execOp,hop,resolve,invoke,builtin,Builtin.len_,run_underlying hu,hv,goInt]
      · cases h2
    · cases hc
  · cases hc
 | lens x' =>
  simp only[chkI]at hc
  split at hc
  · rename_i as ts
    split at hc
    · rename_i x t ha ht
      rw[Bool.and_eq_true]at hc
      obtain⟨h1,h2⟩:=hc
      split at h2
      · rename_i hu
        have h5:=(chkOd_spec h1 he).isS hs
        refine⟨_,?_,.val _⟩
        have ha':as = #[x]:=by rw[←ha]
        have ht':ts = #[t]:=by rw[←ht]
        subst ha' ht'
        simp[execOp,hop,resolve,invoke,builtin,Builtin.len_,run_underlying hu,h5,goInt]
      · cases h2
    · cases hc
  · cases hc
 | mm mx k x' y' =>
  simp only[chkI]at hc
  split at hc
  · rename_i b as ts
    split at hc
    · rename_i x y ha
      rw[Bool.and_eq_true,Bool.and_eq_true]at hc
      obtain⟨⟨h1,h2⟩,h3⟩:=hc
      simp only[pv]at hs ⊢
      have h5:=(chkOd_spec h1 he).isI hs.1
      have h6:=(chkOd_spec h2 he).isI hs.2
      have ha':as = #[x,y]:=by rw[←ha]
      subst ha'
      refine⟨_,?_,.val _⟩
      cases mx with
      | true =>
       cases b<;>simp at h3
       simp[execOp,hop,resolve,invoke,builtin,Builtin.max_,Builtin.max2,h5,h6]
       omega
      | false =>
       cases b<;>simp at h3
       simp[execOp,hop,resolve,invoke,builtin,Builtin.min_,Builtin.min2,h5,h6]
       omega
    · cases hc
  · cases hc
 | mkf f first cap =>
  simp only[chkI]at hc
  split at hc
  · rename_i f' x y
    rw[Bool.and_eq_true,Bool.and_eq_true]at hc
    obtain⟨⟨h1,h2⟩,h3⟩:=hc
    split at h1
    · simp at h1; subst h1
      simp only[pv]at hs ⊢
      simp only[execOp,hop]
      refine fin _ _ ⟨_,?_,VR.fn_of (chkOds_spec h2 he) (chkOds_spec h3 he)⟩
      rw[map_list,map_list]; rfl
    · cases h1
  · cases hc
 | mki t x' =>
  simp only[chkI]at hc
  split at hc
  · rename_i t' x
    rw[Bool.and_eq_true,Bool.and_eq_true,beq_iff_eq]at hc
    obtain⟨⟨rfl,h2⟩,h3⟩:=hc
    simp only[pv]at hs ⊢
    simp only[execOp,hop]
    refine fin _ _ ⟨_,run_makeInterface S.w _ _ ?_,.ifc _ _ _ (chkOd_spec h2 he)⟩
    unfold Program.concrete
    cases hu:P.underlying t' with
    | none=>rw[hu]at h3; cases h3
    | some d=>rw[hu]at h3; cases d<;>simp_all
  · cases hc
 | nck x' =>
  simp only[chkI]at hc
  split at hc
  · simp only[pv]at hs ⊢
    split at hs
    · rename_i s k hp
      simp only[]
      have h1:=(chkOd_spec hc he).ug hs
      rw[hp]at h1
      obtain⟨ad,h2,_⟩:=ptr_add (off:=0) h1
      refine⟨_,?_,h1⟩
      simp[execOp,hop,h2]
    · rename_i f x y hp
      simp only[]
      have h1:=(chkOd_spec hc he).ug hs
      rw[hp]at h1
      obtain⟨us,vs,hv,h2,h3⟩:=h1.fn_inv
      exact⟨.func (.func f) us.toArray vs.toArray,by simp[execOp,hop,hv],VR.fn_of h2 h3⟩
    · exact hs.elim
  · cases hc
 | fnn neg right x' =>
  simp only[chkI]at hc
  split at hc
  · rename_i op2 t x y yt
    rw[Bool.and_eq_true,Bool.and_eq_true,Bool.and_eq_true]at hc
    obtain⟨⟨⟨h1,h2⟩,h3⟩,h4⟩:=hc
    simp only[pv]at hs ⊢
    obtain⟨g1,g2⟩:=hs
    have k1:=(chkOd_spec h2 he).ug g1
    have hu:∃ ps rs vr,P.underlying t=some (.func ps rs vr):=by
     unfold fnT at h4
     split at h4
     · rename_i ps rs vr hu; exact⟨ps,rs,vr,hu⟩
     · cases h4
    obtain⟨ps,rs,vr,hu⟩:=hu
    have hlit:(if right=true then y else x)=.const .nilFunc:=by
     generalize (if right=true then y else x)=z at h3
     split at h3
     · rfl
     · cases h3
    simp only[execOp,hop]
    have hv:(∃ f' u' w',a.eval (if right=true then x else y)=.func f' u' w'∧(e.ev x').ug.fnNil=false)∨(a.eval (if right=true then x else y)=.nilFunc∧(e.ev x').ug.fnNil=true):=by
     generalize a.eval (if right=true then x else y)=v at k1
     generalize (e.ev x').ug=s at k1 g2
     cases k1 with
     | fn f' x y us vs hl h hl' h'=>exact .inl ⟨f',_,_,rfl,rfl⟩
     | val v=>cases v<;>simp_all [SV.isFn,SV.fnNil]
     | _=>simp[SV.isFn]at g2
    have q1:∀ (f':Fn) (u' w':Array Value),(Op.equal t (.func f' u' w') .nilFunc).run P S.w=.ok false S.w:=fun f' u' w'=>run_eq_fn_nil 9999 hu f' u' w'
    have q2:∀ (f':Fn) (u' w':Array Value),(Op.equal t .nilFunc (.func f' u' w')).run P S.w=.ok false S.w:=fun f' u' w'=>run_eq_nil_fn 9999 hu f' u' w'
    have q3:(Op.equal t .nilFunc .nilFunc).run P S.w=.ok true S.w:=run_eq_nilf_nil 9999 hu
    refine fin _ _ ⟨.bool (if(e.ev x').ug.fnNil=true then !neg else neg),?_,.val _⟩
    cases right with
    | true =>
     simp only[if_true]at hlit hv
     subst hlit
     have hev:a.eval (.const .nilFunc)=.nilFunc:=rfl
     rw[hev]
     rcases hv with ⟨f',u',w',hv,hn⟩ | ⟨hv,hn⟩
     · rw[hv,hn]
       cases neg<;>simp at h1<;>subst h1<;>simp[eqGuard,binOp,q1]
     · rw[hv,hn]
       cases neg<;>simp at h1<;>subst h1<;>simp[eqGuard,binOp,q3]
    | false =>
     simp only[if_false,Bool.false_eq_true]at hlit hv
     subst hlit
     have hev:a.eval (.const .nilFunc)=.nilFunc:=rfl
     rw[hev]
     rcases hv with ⟨f',u',w',hv,hn⟩ | ⟨hv,hn⟩
     · rw[hv,hn]
       cases neg<;>simp at h1<;>subst h1<;>simp[eqGuard,binOp,q2]
     · rw[hv,hn]
       cases neg<;>simp at h1<;>subst h1<;>simp[eqGuard,binOp,q3]
  · cases hc
 | ifn neg right x' =>
  simp only[chkI]at hc
  split at hc
  · rename_i op2 t x y yt
    rw[Bool.and_eq_true,Bool.and_eq_true,Bool.and_eq_true]at hc
    obtain⟨⟨⟨h1,h2⟩,h3⟩,h4⟩:=hc
    simp only[pv]at hs ⊢
    obtain⟨g1,g2⟩:=hs
    have k1:=(chkOd_spec h2 he).ug g1
    have hu:∃ ms,P.underlying t=some (.interface ms):=by
     unfold ifT at h4
     split at h4
     · rename_i ms hu; exact⟨ms,hu⟩
     · cases h4
    obtain⟨ms,hu⟩:=hu
    have hlit:(if right=true then y else x)=.const .nilIface:=by
     generalize (if right=true then y else x)=z at h3
     split at h3
     · rfl
     · cases h3
    simp only[execOp,hop]
    have hv:(∃ t' w,a.eval (if right=true then x else y)=.iface t' w∧(e.ev x').ug.ifNil=false)∨(a.eval (if right=true then x else y)=.nilIface∧(e.ev x').ug.ifNil=true):=by
     generalize a.eval (if right=true then x else y)=v at k1
     generalize (e.ev x').ug=s at k1 g2
     cases k1 with
     | ifc t' x v h=>exact .inl ⟨t',v,rfl,rfl⟩
     | val v=>cases v<;>simp_all [SV.isIf,SV.ifNil]
     | _=>simp[SV.isIf]at g2
    have q1:∀ (t':TypeId) (w:Value),(Op.equal t (.iface t' w) .nilIface).run P S.w=.ok false S.w:=fun t' w=>run_eq_if_nil 9999 hu t' w
    have q2:∀ (t':TypeId) (w:Value),(Op.equal t .nilIface (.iface t' w)).run P S.w=.ok false S.w:=fun t' w=>run_eq_nil_if 9999 hu t' w
    have q3:(Op.equal t .nilIface .nilIface).run P S.w=.ok true S.w:=run_eq_nil_nil 9999 hu
    refine fin _ _ ⟨.bool (if(e.ev x').ug.ifNil=true then !neg else neg),?_,.val _⟩
    cases right with
    | true =>
     simp only[if_true]at hlit hv
     subst hlit
     have hev:a.eval (.const .nilIface)=.nilIface:=rfl
     rw[hev]
     rcases hv with ⟨t',w,hv,hn⟩ | ⟨hv,hn⟩
     · rw[hv,hn]
       cases neg<;>simp at h1<;>subst h1<;>simp[eqGuard,binOp,q1]
     · rw[hv,hn]
       cases neg<;>simp at h1<;>subst h1<;>simp[eqGuard,binOp,q3]
    | false =>
     simp only[if_false,Bool.false_eq_true]at hlit hv
     subst hlit
     have hev:a.eval (.const .nilIface)=.nilIface:=rfl
     rw[hev]
     rcases hv with ⟨t',w,hv,hn⟩ | ⟨hv,hn⟩
     · rw[hv,hn]
       cases neg<;>simp at h1<;>subst h1<;>simp[eqGuard,binOp,q2]
     · rw[hv,hn]
       cases neg<;>simp at h1<;>subst h1<;>simp[eqGuard,binOp,q3]
  · cases hc
 | tas t ok z x' =>
  simp only[chkI]at hc
  split at hc
  · rename_i x xt t2 ok2
    rw[Bool.and_eq_true,Bool.and_eq_true,Bool.and_eq_true,Bool.and_eq_true,beq_iff_eq,beq_iff_eq]at hc
    obtain⟨⟨⟨⟨rfl,rfl⟩,h3⟩,h4⟩,h5⟩:=hc
    simp only[pv]at hs ⊢
    obtain⟨g1,g2,g3⟩:=hs
    have k1:=(chkOd_spec h3 he).ug g1
    simp only[execOp,hop]
    obtain⟨d,hu,hni⟩:∃ d,P.underlying t2=some d∧∀ ms,d≠.interface ms:=by
     unfold noIfT at h5
     split at h5
     · cases h5
     · rename_i d hn hd; exact⟨d,hd,fun ms e=>hn ms e⟩
     · cases h5
    obtain⟨zv,hz,hzv⟩:=zeroV_spec (S:=S) h4
    generalize a.eval x=v at k1
    generalize (e.ev x').ug=s at k1 g2 g3
    have nilc:v=.nilIface->s.ifIs t2=false->∃ r,(Instr.typeAssert v xt t2 ok2).run P S.w=.ok r S.w∧VR S (if ok2=true then(if s.ifIs t2=true then .tup [s.ifVal,bl true]else .tup [z,bl false])else s.ifVal) r:=by
     intro hv hn
     rw[hn]at g3 ⊢
     have hok:ok2=true:=g3.resolve_right (by simp)
     subst hok hv
     refine⟨.tuple #[zv,.bool false],?_,?_⟩
     · simp only[Instr.typeAssert,Sem.run_bind,run_underlying hu,Result.andThen_ok]
       cases d<;>first | exact absurd rfl (hni _) | simp[hz]
     · simp only[if_true,if_false,Bool.false_eq_true]
       exact .tup [z,bl false] [zv,.bool false] rfl (VRs.cons hzv (VRs.cons (.val _) (VRs.nil S))).2
    refine fin _ _ ?_
    cases k1 with
    | ifc t' y w hw =>
     by_cases ht:t'=t2
     · subst ht
       simp only[SV.ifIs,SV.ifVal,beq_self_eq_true,if_true]
       cases ok2 with
       | true =>
        refine⟨.tuple #[w,.bool true],?_,?_⟩
        · simp only[Instr.typeAssert,Sem.run_bind,run_underlying hu,Result.andThen_ok]
          cases d<;>first | exact absurd rfl (hni _) | simp
        · exact .tup [y,bl true] [w,.bool true] rfl (VRs.cons hw (VRs.cons (.val _) (VRs.nil S))).2
       | false =>
        refine⟨w,?_,hw⟩
        simp only[Instr.typeAssert,Sem.run_bind,run_underlying hu,Result.andThen_ok]
        cases d<;>first | exact absurd rfl (hni _) | simp
     · have hn:(SV.ifc t' y).ifIs t2=false:=by simp[SV.ifIs,ht]
       rw[hn]at g3 ⊢
       have hok:ok2=true:=g3.resolve_right (by simp)
       subst hok
       refine⟨.tuple #[zv,.bool false],?_,?_⟩
       · simp only[Instr.typeAssert,Sem.run_bind,run_underlying hu,Result.andThen_ok]
         cases d<;>first | exact absurd rfl (hni _) | simp[hz,ht]
       · simp only[if_true,if_false,Bool.false_eq_true]
         exact .tup [z,bl false] [zv,.bool false] rfl (VRs.cons hzv (VRs.cons (.val _) (VRs.nil S))).2
    | val v=>cases v<;>first | exact nilc rfl rfl | simp[SV.isIf]at g2
    | _=>simp[SV.isIf]at g2
  · cases hc
 | iav sz s j =>
  simp only[chkI]at hc
  split at hc
  · rename_i t x ix
    simp only[Bool.and_eq_true]at hc
    obtain⟨⟨h1,h2⟩,h3⟩:=hc
    simp only[pv]at hs ⊢
    simp only[execOp,hop]
    split at hs
    · rename_i ad len cap hsl
      obtain⟨g1,g2,g3,g4⟩:=hs
      simp only[]
      refine fin _ _ ?_
      have k1:=(chkOd_spec h1 he).ug g1
      rw[hsl]at k1
      obtain⟨k,hv⟩:=(chkOd_spec h2 he).isN g2
      obtain⟨el,hu,hsz⟩:=slB_spec h3
      have hx:a.eval x=.slice (some ad) len cap:=by
       generalize a.eval x=v at k1
       cases k1; rfl
      refine⟨_,?_,.val _⟩
      rw[hv,hx]
      simp[Instr.indexAt,run_asIntOf,run_underlying hu,g3,g4,run_sizeOf' hsz]
    · exact hs.elim
  · cases hc
 | bys x' =>
  simp only[chkI]at hc
  split at hc
  · rename_i sT dT x
    rw[Bool.and_eq_true,Bool.and_eq_true]at hc
    obtain⟨⟨h1,h2⟩,h3⟩:=hc
    split at h2
    · rename_i hd
      split at h3
      · rename_i el hu
        split at h3
        · rename_i hel
          simp only[pv]at hs ⊢
          simp only[execOp,hop]
          obtain⟨g1,g2,g3⟩:=hs
          refine fin _ _ ⟨_,?_,.val _⟩
          exact run_bys hS ((chkOd_spec h1 he).ug g1) g2 g3 hu hel hd
        · cases h3
      · cases h3
    · cases h2
  · cases hc
 | lnv x' =>
  simp only[chkI]at hc
  split at hc
  · rename_i as ts
    split at hc
    · rename_i x t ha ht
      rw[Bool.and_eq_true]at hc
      obtain⟨h1,h2⟩:=hc
      split at h2
      · rename_i el hu
        simp only[pv]at hs ⊢
        split at hs
        · rename_i ad len cap hsl
          simp only[]
          have k1:=(chkOd_spec h1 he).ug hs
          rw[hsl]at k1
          have hv:a.eval x=.slice ad len cap:=by
           generalize a.eval x=v at k1
           cases k1; rfl
          refine⟨_,?_,.val _⟩
          have ha':as = #[x]:=by rw[←ha]
          have ht':ts = #[t]:=by rw[←ht]
          subst ha' ht'
          simp[execOp,hop,resolve,invoke,builtin,Builtin.len_,run_underlying hu,hv,goInt]
        · exact hs.elim
      · cases h2
    · cases hc
  · cases hc
 | lkp kk ok z m' k' =>
  simp only[chkI]at hc
  split at hc
  · rename_i t m k ok'
    rw[Bool.and_eq_true,Bool.and_eq_true,Bool.and_eq_true,beq_iff_eq]at hc
    obtain⟨⟨⟨rfl,h1⟩,h2⟩,h3⟩:=hc
    simp only[pv]at hs ⊢
    cases hmo:(e.ev m').ug.mapOf S.H with
    | none=>rw[hmo]at hs; exact hs.elim
    | some x =>
    rw[hmo]at hs
    obtain⟨g1,g2,g3,g4⟩:=hs
    obtain⟨kt,et,hu,hk,hz,hzz⟩:=mapB_spec h3
    obtain⟨zv,hzr,hzv⟩:=zeroV_spec (S:=S) hz
    have k1:=(chkOd_spec h1 he).ug g1
    obtain⟨k2,k3⟩:=(chkOd_spec h2 he).isK g2
    simp only[execOp,hop]
    obtain⟨es,hrun,hks,hvs⟩:=mapOf_spec hS k1 hmo
    rw[hks]at g3 g4
    rw[←k2]at g4
    obtain⟨r,hf,hr⟩:=find_all (S:=S) hk hzz hS k3 g3 g4 hvs
    rw[hks]
    refine fin _ _ ?_
    have hck:=check_all (P:=P) (w:=S.w) hk hzz k3 es.isEmpty
    have hfk:=hf
    have hlook:∀ (q:Option (Nat×Value)),(Instr.findKey kt (a.eval k) es.toList).run P S.w=.ok q S.w →
     (Instr.lookup t (a.eval m) (a.eval k) ok').run P S.w=match q with
      | some (_,v)=>.ok (if ok'=true then .tuple #[v,.bool true]else v) S.w
      | none=>.ok (if ok'=true then .tuple #[zv,.bool false]else zv) S.w:=by
     intro q hq
     rcases hrun with ⟨hm,rfl⟩ | ⟨r',cl,hm,hb⟩
     · rw[hm]
       have hck:(Instr.checkKey true 10000 kt (a.eval k)).run P S.w=.ok () S.w:=hck
       have hq:(Instr.findKey kt (a.eval k) []).run P S.w=.ok q S.w:=hq
       cases q with
       | none=>cases ok'<;>simp[Instr.lookup,run_underlying hu,hck,hq,hzr,Result.andThen]
       | some q=>obtain⟨j,v⟩:=q; cases ok'<;>simp[Instr.lookup,run_underlying hu,hck,hq,Result.andThen]
     · rw[hm]
       cases q with
       | none=>cases ok'<;>simp[Instr.lookup,run_underlying hu,Go.MapKept.run_getObj_map hb,hck,hq,hzr,Result.andThen]
       | some q=>obtain⟨j,v⟩:=q; cases ok'<;>simp[Instr.lookup,run_underlying hu,Go.MapKept.run_getObj_map hb,hck,hq,Result.andThen]
    rw[←k2]
    cases hl:lkm (a.eval k) (es.toList.map (·.key)) x.2 with
    | none =>
     rw[hl]at hr
     subst hr
     refine⟨_,hlook _ hfk,?_⟩
     cases ok' with
     | true=>exact .tup [z,bl false] [zv,.bool false] rfl (VRs.cons hzv (VRs.cons (.val _) (VRs.nil S))).2
     | false=>exact hzv
    | some s =>
     rw[hl]at hr
     obtain⟨j,u,rfl,hsu⟩:=hr
     refine⟨_,hlook _ hfk,?_⟩
     cases ok' with
     | true=>exact .tup [s,bl true] [u,.bool true] rfl (VRs.cons hsu (VRs.cons (.val _) (VRs.nil S))).2
     | false=>exact hsu
  · cases hc
 | no=>simp only[pv]at hs
 | kro T sz len z parts=>simp[chkI]at hc
 | kr1 T len z parts=>simp[chkI]at hc
 | bld z parts =>
  simp only[chkI]at hc
  split at hc
  · rename_i t ps
    simp only[Bool.and_eq_true]at hc
    simp only[pv]at hs ⊢
    simp only[execOp,hop]
    have:=run_bld (ps:=ps.toList) hc.1.1 hc.1.2 hc.2 he hs
    refine fin _ _ ?_
    have e1:(ps.map fun x=>(x.1,a.eval x.2))=(ps.toList.map fun p=>(p.1,a.eval p.2)).toArray:=by cases ps; simp
    obtain⟨u,h1,h2⟩:=this
    refine⟨u,?_,h2⟩
    rw[←h1,<- e1]
  · cases hc
end
end Go.Ab
namespace Go.Ab
variable [GlobEnv] [FrEnv] [KnEnv]
inductive E where
 | alc (T:TypeId) (z:List SV)
 | box (T:TypeId) (x:Od)
 | bsl (T:TypeId) (sz len:Nat) (z:List SV) (parts:List (Nat×Od))
 | mks (T:TypeId) (sz bytes:Nat) (z:List SV) (len cap:Od)
 | app (T:TypeId) (sz bytes:Nat) (s x:Od)
 | st (n:Nat) (p x:Od)
 | stw (ws:List Nat) (n:Nat) (p x:Od)
 | cpy (sz:Nat) (d s:Od)
 | call (f:Od) (args:List Od)
 | nil (T:TypeId) (sz:Nat) (x:Od)
 | sl0 (T:TypeId) (sz:Nat) (x:Od)
 | snil (neg right:Bool) (x:Od)
 | sby (x:Od)
 | aps (T:TypeId) (s x:Od)
 | flo (i:Nat) (T:TypeId) (sz bytes:Nat) (z:List SV) (len cap:Od)
 | fle (i:Nat) (T:TypeId) (sz:Nat)
 | fla (i:Nat) (T:TypeId) (z:List SV)
 | flb (i:Nat) (T:TypeId) (sz len:Nat) (z:List SV) (parts:List (Nat×Od))
 | pan (x:Od)
 | calln (f:Od) (args:List Od)
 | mkm (T:TypeId)
 | mup (kk:KK) (m k v:Od)
def sbyts (s:ByteArray):List SV:=s.data.toList.map fun b=>.val (.int .u8 b.toNat)
def SV.isNil:SV->Bool
 | .val (.slice none 0 0)=>true
 | _=>false
def cellsOk (l:List SV):Prop:=∀ s∈l,s.isCell=true
def SV.els (H:List AO) (sz:Nat) (s:SV):List SV:=(s.row H).take (s.slen*sz)
def setObj (H:List AO) (i:Nat) (f:AO->AO):List AO :=
 match H[i]? with
 | some o=>H.set i (f o)
 | none=>H
def AO.put (o:AO) (off:Nat) (cs:List SV):AO:={ o with cells:=o.cells.take off++cs++o.cells.drop (off+cs.length) }
def AO.grow (o:AO) (cs:List SV):AO:={ o with cells:=o.cells++cs,ver:=o.ver+1 }
def xe (i:E) (g:Od->SV) (H:List AO) (K:SV->List AO->Prop):Prop :=
 match i with
 | .alc T z=>K (.ptr (.own H.length 0 0 0 0) 0) (H++[⟨z,T,0,true⟩])
 | .box T x=>(g x).vd=true∧cellsOk (g x).ug.flat∧K (.ptr (.own H.length 0 0 0 0) 0) (H++[⟨(g x).ug.flat,T,0,true⟩])
 | .bsl T sz len z parts =>
  (∀ p∈parts,partOk sz (g p.2)∧p.1*sz+sz≤len*sz)∧cellsOk (fillS (List.replicate len z).flatten (parts.map fun p=>(p.1*sz,g p.2))) ∧
   K (.own H.length 0 len sz 0) (H++[⟨fillS (List.replicate len z).flatten (parts.map fun p=>(p.1*sz,g p.2)),T,0,true⟩])
 | .mks T sz bytes z len cap =>
  (g len).isN=true∧(g cap).isN=true∧0≤(g len).int∧(g len).int≤(g cap).int∧bytes*(g cap).int≤140737488355328∧(g cap).int≤140737488355328 ∧
   K (.own H.length 0 (g len).int.toNat sz 0) (H++[⟨(List.replicate (g len).int.toNat z).flatten,T,0,true⟩])
 | .app T sz bytes s x =>
  (g s).vd=true∧(g x).vd=true∧(g x).ug.isSl=true∧(g x).ug.slen*sz≤((g x).ug.row H).length∧cellsOk ((g x).ug.els H sz) ∧
   ((g s).ug.slen+(g x).ug.slen)*bytes≤140737488355328∧(g s).ug.slen+(g x).ug.slen≤140737488355328 ∧
   match (g s).ug with
   | .own i 0 n sz' ver =>
    sz'=sz∧(∃ o,H[i]? = some o∧o.live=true∧o.ver=ver∧o.ty=T∧o.cells.length=n*sz)∧K (.own i 0 (n+(g x).ug.slen) sz (ver+1)) (setObj H i fun o=>o.grow ((g x).ug.els H sz))
   | v=>v.isNil=true∧K (.own H.length 0 (g x).ug.slen sz 1) (H++[⟨(g x).ug.els H sz,T,1,true⟩])
 | .st n p x =>
  (g p).vd=true∧(g x).vd=true∧cellsOk (g x).ug.flat∧(g x).ug.flat.length=n∧0<n ∧
   match (g p).ug with
   | .ptr (.own i off _ _ ver) k=>off+k+n≤(objCells H i ver).length∧K (.val undef) (setObj H i fun o=>o.put (off+k) (g x).ug.flat)
   | _=>False
 | .stw _ n p x =>
  (g p).vd=true∧(g x).vd=true∧cellsOk (g x).ug.flat∧(g x).ug.flat.length=n∧0<n ∧
   match (g p).ug with
   | .ptr (.own i off _ _ ver) k=>off+k+n≤(objCells H i ver).length∧K (.val undef) (setObj H i fun o=>o.put (off+k) (g x).ug.flat)
   | _=>False
 | .nil T sz x=>(g x).vd=true∧(g x).ug.isNil=true∧K (.own H.length 0 0 sz 0) (H++[⟨[],T,0,true⟩])
 | .sl0 T sz x=>(g x).vd=true∧(g x).ug.isSl=true∧K (.own H.length 0 0 sz 0) (H++[⟨[],T,0,true⟩])
 | .aps T s x =>
  (g s).vd=true∧(g x).isS=true∧(g s).ug.slen+(g x).str.size≤140737488355328 ∧
   match (g s).ug with
   | .own i 0 n sz' ver =>
    sz'=1∧(∃ o,H[i]? = some o∧o.live=true∧o.ver=ver∧o.ty=T∧o.cells.length=n*1)∧K (.own i 0 (n+(g x).str.size) 1 (ver+1)) (setObj H i fun o=>o.grow (sbyts (g x).str))
   | v=>v.isNil=true∧K (.own H.length 0 (g x).str.size 1 1) (H++[⟨sbyts (g x).str,T,1,true⟩])
 | .sby x=>(g x).isS=true∧K (.slc (sbyts (g x).str) (g x).str.size) H
 | .snil neg _ x=>(g x).vd=true∧(g x).ug.isSl=true∧((g x).ug.slen≠0->K (bl neg) H)∧((g x).ug.slen=0->K (bl neg) H∧K (bl (!neg)) H)
 | .flo i T sz bytes z len cap =>
  (g len).isN=true∧(g cap).isN=true∧0≤(g len).int∧(g len).int≤(g cap).int∧bytes*(g cap).int≤140737488355328∧(g cap).int≤140737488355328 ∧
   H[i]? = some ⟨[],T,0,false⟩∧K (.own i 0 (g len).int.toNat sz 1) (H.set i ⟨(List.replicate (g len).int.toNat z).flatten,T,1,true⟩)
 | .fle i T sz=>H[i]? = some ⟨[],T,0,false⟩∧K (.own i 0 0 sz 1) (H.set i ⟨[],T,1,true⟩)
 | .fla i T z=>H[i]? = some ⟨[],T,0,false⟩∧K (.ptr (.own i 0 0 0 1) 0) (H.set i ⟨z,T,1,true⟩)
 | .flb i T sz len z parts =>
  (∀ p∈parts,partOk sz (g p.2)∧p.1*sz+sz≤len*sz)∧cellsOk (fillS (List.replicate len z).flatten (parts.map fun p=>(p.1*sz,g p.2))) ∧
   H[i]? = some ⟨[],T,0,false⟩∧K (.own i 0 len sz 1) (H.set i ⟨fillS (List.replicate len z).flatten (parts.map fun p=>(p.1*sz,g p.2)),T,1,true⟩)
 | .cpy sz d s=>(g d).vd=true∧(g s).vd=true∧(g s).ug.isSl=true∧(g s).ug.slen*sz≤((g s).ug.row H).length∧cellsOk ((g s).ug.els H sz) ∧
  match (g d).ug with
  | .own i off n _ ver=>0<n∧n=(g s).ug.slen∧off+n≤(objCells H i ver).length∧K (i64 n) (setObj H i fun o=>o.put off ((g s).ug.els H sz))
  | _=>False
 | .mkm T=>K (.mp H.length 0) (H++[⟨[.mk []],T,0,false⟩])
 | .mup kk m k v=>(g m).vd=true∧(g k).isK kk=true∧(g v).vd=true ∧
  match (g m).ug,(g m).ug.mapOf H with
  | .mp i _,some x=>x.1.all kk.is=true∧(∀ v∈(g k).key kk::x.1,kk.knows v)∧K (.val undef) (setObj H i fun o=>{ o with cells:=.mk (msetK ((g k).key kk) x.1)::msetV ((g k).key kk) (g v).ug x.1 x.2 })
  | _,_=>False
 | _=>False
def infoB (P:Program) (t:TypeId) (sz bytes:Nat):Bool:=match P.info? t with | some i=>i.size==sz&&i.bytes==bytes&&(match i.zero with | some z=>z.cells.size==sz | none=>false) | none=>false
def bslB:List (Nat×Operand)->List (Nat×Od)->Bool
 | [],[]=>true
 | (f,x)::r,(f',y)::s=>f==f'&&chkOd x y&&bslB r s
 | _,_=>false
def slTB (P:Program) (t e:TypeId):Bool:=match P.underlying t with | some (.slice e')=>e'==e | _=>false
def mapKB (P:Program) (t:TypeId) (kk:KK):Bool :=
 match P.underlying t with
 | some (.map kt _)=>(match P.underlying kt with
  | some .string=>(match kk with | .s=>true | _=>false)
  | some (.int k)=>(match kk with | .i k'=>decide (k'=k) | _=>false)
  | some .bool=>(match kk with | .b=>true | _=>false)
  | some (.pointer e)=>(match kk with | .p e'=>decide (e'=e)&&(KK.p e').szB P | _=>false)
  | some (.array n t)=>(match kk with | .pp t' e'=>decide (n=2∧t'=t)&&(KK.pp t' e').szB P | _=>false)
  | _=>false)
 | _=>false
def chkE (P:Program) (op:Op) (i:E):Bool :=
 match i with
 | .alc T z=>match op with | .alloc T'=>T'==T&&zeroB P T z | _=>false
 | .box T x'=>match op with | .box T' x=>T'==T&&chkOd x x' | _=>false
 | .bsl T sz len z parts=>match op with | .buildSlice t len' ps=>slTB P t T&&sizeB P T sz&&len'==len&&zeroB P T z&&z.length==sz&&decide (len*sz≤16777216)&&bslB ps.toList parts | _=>false
 | .mks T sz bytes z len cap=>match op with | .makeSlice t l c=>slTB P t T&&infoB P T sz bytes&&zeroB P T z&&z.length==sz&&chkOd l len&&chkOd c cap | _=>false
 | .cpy sz d s=>match op with
  | .call { callee:=.builtin .copy,args:=as,argTypes:=ts }=>(match as.toList,ts.toList with
   | [d',s'],[t,t']=>t==t'&&chkOd d' d&&chkOd s' s&&sz==1&&(match P.underlying t with | some (.slice e)=>(match P.info? e with | some i=>i.size==1 | none=>false) | _=>false)
   | _,_=>false)
  | _=>false
 | .app T sz bytes s x=>match op with
  | .call { callee:=.builtin .append,args:=as,argTypes:=ts }=>(match as.toList,ts.toList with
   | [s',x'],[t,t']=>t==t'&&chkOd s' s&&chkOd x' x&&slTB P t T&&infoB P T sz bytes&&decide (0<sz)
   | _,_=>false)
  | _=>false
 | .st n p x=>match op with | .store t p' x'=>chkOd p' p&&chkOd x' x&&sizeB P t n | _=>false
 | .stw _ n p x=>match op with | .store t p' x'=>chkOd p' p&&chkOd x' x&&sizeB P t n | _=>false
 | .nil _ _ x=>match op with | .move x' | .assign x'=>chkOd x' x | _=>false
 | .sl0 T _ x=>match op with | .slice t x' none (some (.const (.int _ 0))) (some (.const (.int _ 0)))=>chkOd x' x&&slTB P t T&&(P.info? T).isSome | _=>false
 | .flo _ T sz bytes z len cap=>match op with | .makeSlice t l c=>slTB P t T&&infoB P T sz bytes&&zeroB P T z&&z.length==sz&&chkOd l len&&chkOd c cap | _=>false
 | .fle _ T sz=>match op with | .buildSlice t len' ps=>slTB P t T&&sizeB P T sz&&len'==0&&ps.isEmpty | _=>false
 | .fla _ T z=>match op with | .alloc T'=>T'==T&&zeroB P T z | _=>false
 | .flb _ T sz len z parts=>match op with | .buildSlice t len' ps=>slTB P t T&&sizeB P T sz&&len'==len&&zeroB P T z&&z.length==sz&&decide (len*sz≤16777216)&&bslB ps.toList parts | _=>false
 | .aps T s x=>match op with
  | .call { callee:=.builtin .append,args:=as,argTypes:=ts }=>(match as.toList,ts.toList with
   | [s',x'],[t,t']=>chkOd s' s&&chkOd x' x&&slTB P t T&&infoB P T 1 1&&(match P.underlying t' with | some .string=>true | _=>false)
   | _,_=>false)
  | _=>false
 | .sby x=>match op with
  | .convert src dst x'=>chkOd x' x&&(match P.underlying src with | some .string=>true | _=>false) &&
   (match P.underlying dst with | some (.slice e)=>(match P.underlying e with | some (.int .u8)=>true | _=>false) | _=>false)
  | _=>false
 | .snil neg right x=>match op with
  | .binOp op t x' y' _=>(if neg then op==.neq else op==.eql)&&chkOd (if right then x' else y') x&&(match (if right then y' else x')with | .const (.slice none 0 0)=>true | _=>false) &&
   (match P.underlying t with | some (.slice _)=>true | _=>false)
  | _=>false
 | .pan x=>match op with | .panic x'=>chkOd x' x | _=>false
 | .mkm T=>match op with
  | .makeMap T' none=>T'==T
  | .makeMap T' (some (.const (.int _ _)))=>T'==T&&(match P.underlying T with | some (.map _ _)=>true | _=>false)
  | _=>false
 | .mup kk m k v=>match op with | .mapUpdate t m' k' v' | .insert t m' k' v'=>chkOd m' m&&chkOd k' k&&chkOd v' v&&mapKB P t kk | _=>false
 | .call f args=>match op with | .call { callee:=.value f',args:=as,argTypes:=_ }=>chkOd f' f&&chkOds as.toList args | _=>false
 | .calln f args=>match op with | .call { callee:=.value f',args:=as,argTypes:=_ }=>chkOd f' f&&chkOds as.toList args | _=>false
section
variable {P:Program} {S:St} {e:Env} {a:Act}
theorem slTB_spec {t T:TypeId} (h:slTB P t T=true):P.underlying t=some (.slice T):=by
 unfold slTB at h
 split at h
 · rename_i e' hu; simp at h; subst h; exact hu
 · cases h
theorem mapKB_spec {t:TypeId} {kk:KK} (h:mapKB P t kk=true):∃ kt et,P.underlying t=some (.map kt et)∧P.underlying kt=some kk.desc∧kk.szB P=true:=by
 unfold mapKB at h
 split at h
 · rename_i kt et hu
   have key:P.underlying kt=some kk.desc∧kk.szB P=true:=by
    split at h
    · rename_i hk; cases kk<;>simp at h; exact⟨hk,rfl⟩
    · rename_i k hk; cases kk<;>simp at h; subst h; exact⟨hk,rfl⟩
    · rename_i hk; cases kk<;>simp at h; exact⟨hk,rfl⟩
    · rename_i e hk
      cases kk<;>simp at h
      obtain⟨rfl,h2⟩:=h
      exact⟨hk,h2⟩
    · rename_i n t' hk
      cases kk<;>simp at h
      obtain⟨⟨rfl,rfl⟩,h2⟩:=h
      exact⟨hk,h2⟩
    · cases h
   exact⟨kt,et,hu,key.1,key.2⟩
 · cases h
theorem infoB_spec {t:TypeId} {sz bytes:Nat} (h:infoB P t sz bytes=true):∃ i z,P.info? t=some i∧i.zero=some z∧i.size=sz∧i.bytes=bytes∧z.cells.size=sz:=by
 unfold infoB at h
 split at h
 · rename_i i hi
   rw[Bool.and_eq_true,Bool.and_eq_true,beq_iff_eq,beq_iff_eq]at h
   obtain⟨⟨h1,h2⟩,h3⟩:=h
   split at h3
   · rename_i z hz; exact⟨i,z,hi,hz,h1,h2,by simpa using h3⟩
   · cases h3
 · cases h
theorem setRow_eq (w:World) (g:Nat) (cs cur:Array Value) (T:TypeId) (f:Nat×Nat) (hg:w.heap[g]? = some (.cells cur T f)) :
 w.setRow g cs={ w with heap:=w.heap.setIfInBounds g (.cells cs T f) }:=by
 unfold World.setRow
 congr 1
 apply Array.ext_getElem?
 intro j
 rw[Array.getElem?_modify,Array.getElem?_setIfInBounds]
 have hlt:g<w.heap.size:=by
  rcases Nat.lt_or_ge g w.heap.size with h1 | h1
  · exact h1
  · rw[Array.getElem?_eq_none h1]at hg; cases hg
 by_cases h:g=j
 · subst h; rw[if_pos rfl,if_pos rfl,if_pos hlt,hg]; rfl
 · rw[if_neg h,if_neg h]
theorem VR.els {s:SV} {v:Value} {sz:Nat} (hS:Sim S) (hv:VR S s v) (hs:s.isSl=true) (hl:s.slen*sz≤(s.row S.H).length) :
 ∃ ad cap us,v=.slice ad s.slen cap∧us.length=s.slen*sz∧VRs S (s.els S.H sz) us∧(∀ x,ad=some x->∀ j u,us[j]? = some u->S.w.cell? (x.add j)=some u)∧(ad=none->s.slen=0):=by
 cases hv with
 | slc cells len ad cap us hc hl' hi h =>
  simp only[SV.slen,SV.row,SV.els]at *
  refine⟨some ad,cap,us.take (len*sz),rfl,by simp; omega,⟨by simp; omega,?_⟩,?_,fun h=>by cases h⟩
  · exact(VRs.take (S:=S) ⟨hl',h⟩ _).2
  · intro x hx j u hj
    cases hx
    rw[List.getElem?_take]at hj
    split at hj
    · exact hi.1 j u hj
    · cases hj
 | nilslc=>exact⟨none,0,[],rfl,by simp[SV.slen],by simpa[SV.els,SV.row]using VRs.nil S,fun x hx=>by(cases hx),fun _=>rfl⟩
 | own i off len sz' ver ad cap o ho hv hc hz h =>
  simp only[SV.slen,SV.row,SV.els,List.length_drop]at *
  by_cases h0:len*sz=0
  · refine⟨ad,cap,[],rfl,by simp[h0],?_,fun x hx j u hj=>by simp at hj,hz⟩
    rw[h0]; simpa using VRs.nil S
  · have hne:off<(objCells S.H i ver).length:=by omega
    obtain⟨o',b,us,rest,u,ho',hl',hv',hρ,hh,hvr,_⟩:=hS.read (List.getElem?_eq_getElem hne)
    rw[ho]at ho'; cases ho'
    have hcells:objCells S.H i ver=o.cells:=by
     unfold objCells; rw[ho]; simp[hl',hv']
    rw[hcells]at hl hne ⊢
    have h2:=h hv'
    unfold St.OwnAt at h2
    rw[hρ]at h2
    have hlen0:len≠0:=fun e=>h0 (by simp[e])
    have had:ad=some ⟨b,off,none⟩:=by
     rcases h2 with h2 | h2
     · omega
     · exact h2.1
    subst had
    have hvd:=(hvr.drop off).take (len*sz)
    refine⟨_,cap,(us.drop off).take (len*sz),rfl,?_,hvd,?_,hz⟩
    · have:=hvr.1; simp; omega
    · intro x hx j u hj
      cases hx
      rw[List.getElem?_take]at hj
      split at hj
      · rw[List.getElem?_drop]at hj
        have hadd:(⟨b,off,none⟩:Addr).add j=⟨b,off+j,none⟩:=by unfold Addr.add; split<;>simp_all
        rw[hadd]
        unfold World.cell?
        simp only[hh,Option.isSome_none,Bool.false_eq_true,if_false]
        have:off+j<us.length:=getElem?_lt hj
        simp[List.getElem?_append_left this,hj]
      · cases hj
 | val v =>
  have:v=.slice none 0 0:=by cases v<;>simp[SV.isSl]at hs; rename_i a b c; revert hs; cases a<;>cases b<;>cases c<;>simp
  subst this
  exact⟨none,0,[],rfl,by simp[SV.slen],by simpa[SV.els,SV.row,SV.slen]using VRs.nil S,fun x hx=>by(cases hx),fun _=>rfl⟩
 | _=>simp[SV.isSl]at hs
theorem VRs.oneCells {l:List SV} {us:List Value} (h:VRs S l us) (hc:cellsOk l):∀ u∈us,u.oneCell'=true:=by
 intro u hu
 obtain⟨j,hj⟩:=List.getElem?_of_mem hu
 have hlt:j<l.length:=by rw[←h.1]; exact getElem?_lt hj
 exact(h.2 j _ u (List.getElem?_eq_getElem hlt) hj).oneCell (hc _ (List.getElem_mem hlt))
theorem VRs.unders {l:List SV} {us:List Value} (h:VRs S l us) (hc:cellsOk l):∀ s∈l,s.under S.H.length=true∧s.isCell=true:=by
 intro s hs
 obtain⟨j,hj⟩:=List.getElem?_of_mem hs
 obtain⟨u,_,hv⟩:=h.get hj
 exact⟨hv.under,hc s hs⟩
theorem VR.flat {s:SV} {v:Value} (h:VR S s v) (hc:cellsOk s.flat):∃ us,v.cells=us.toArray∧VRs S s.flat us:=by
 cases h with
 | agg l us hl h=>exact⟨us,rfl,hl,h⟩
 | val v =>
  refine⟨[v],?_,VRs.cons (.val v) (VRs.nil S)⟩
  have h1:=hc (.val v) (by simp[SV.flat])
  simp only[SV.isCell]at h1
  cases v<;>simp_all [Value.cells,Value.oneCell']
 | any v=>have:=hc .any (by simp[SV.flat]); simp[SV.isCell]at this
 | gd b x v h0 h=>have:=hc (.gd b x) (by simp[SV.flat]); simp[SV.isCell]at this
 | nilslc=>exact⟨[_],rfl,VRs.cons .nilslc (VRs.nil S)⟩
 | slc cells len a cap us hc' hl hi h=>exact⟨[_],rfl,VRs.cons (.slc cells len a cap us hc' hl hi h) (VRs.nil S)⟩
 | own i off len sz ver a cap o ho hv hc' hz h=>exact⟨[_],rfl,VRs.cons (.own i off len sz ver a cap o ho hv hc' hz h) (VRs.nil S)⟩
 | ptrI cells len k a us hl hi h=>exact⟨[_],rfl,VRs.cons (.ptrI cells len k a us hl hi h) (VRs.nil S)⟩
 | ptrO i off len sz ver k a o ho hv h=>exact⟨[_],rfl,VRs.cons (.ptrO i off len sz ver k a o ho hv h) (VRs.nil S)⟩
 | tup l us hl h=>have:=hc (.tup l) (by simp[SV.flat]); simp[SV.isCell]at this
 | fn f x y us vs hl h hl' h'=>exact⟨[_],rfl,VRs.cons (.fn f x y us vs hl h hl' h') (VRs.nil S)⟩
 | ifc t x v h=>exact⟨[_],rfl,VRs.cons (.ifc t x v h) (VRs.nil S)⟩
 | yl i l o ho h=>have:=hc (.yl i) (by simp[SV.flat]); simp[SV.isCell]at this
 | mp i ver l o ho hv h=>exact⟨[_],rfl,VRs.cons (.mp i ver l o ho hv h) (VRs.nil S)⟩
 | mpf vs l es cl us hb hn hu hl h=>exact⟨[_],rfl,VRs.cons (.mpf vs l es cl us hb hn hu hl h) (VRs.nil S)⟩
 | pn x v h hr hp =>
  obtain⟨a,n,c,rfl⟩:=h.isRw hr
  exact⟨[_],rfl,VRs.cons (.pn x _ h hr hp) (VRs.nil S)⟩
end
end Go.Ab
namespace Go.Ab
variable [GlobEnv] [FrEnv] [KnEnv]
section
variable {P:Program} {S:St} {e:Env} {a:Act}
def Eff (P:Program) (S:St) (a:Act) (o:Oper) (K:SV->List AO->Prop):Prop :=
 ∃ nv S' sv,((execOp a.eval o).run P S.w=.ok (.value nv) S'.w∨((execOp a.eval o).run P S.w=.ok .skip S'.w∧nv=undef)) ∧
  Ext S.H.length S S'∧Sim S'∧VR S' sv nv∧K sv S'.H
theorem new_at (S:St) (cells:List SV) (T:TypeId) (us rest:List Value):(S.new cells T 0 us rest).H[S.H.length]? = some ⟨cells,T,0,true⟩:=by simp[St.new]
theorem eff_ptr (hS:Sim S) {cells:List SV} {T:TypeId} {us:List Value} (hv:VRs S cells us) (hc:cellsOk cells) {o:Oper} {K:SV->List AO->Prop}
 (hrun:(execOp a.eval o).run P S.w=.ok (.value (.pointer (some ⟨S.w.heap.size,0,none⟩))) (S.w.alloc (.cells us.toArray T)))
 (hK:K (.ptr (.own S.H.length 0 0 0 0) 0) (S.H++[⟨cells,T,0,true⟩])):Eff P S a o K:=by
 refine⟨.pointer (some ⟨S.w.heap.size,0,none⟩),S.new cells T 0 us [],_,.inl ?_,ext_new S hS _ _ _ _ _,sim_new hS T 0 [] hv (hv.unders hc),?_,hK⟩
 · rw[hrun]; simp[St.new]
 · exact .ptrO _ _ _ _ _ _ _ _ (new_at S cells T us []) (Nat.le_refl _) fun _=>⟨S.w.heap.size,by simp[St.new,upd_same],rfl⟩
theorem eff_slice (hS:Sim S) {cells:List SV} {T:TypeId} {us rest:List Value} {len cap sz:Nat} (hv:VRs S cells us) (hc:cellsOk cells) {o:Oper} {K:SV->List AO->Prop}
 (hlc:len≤cap) (hsz:cap*sz≤(us++rest).length)
 (hrun:(execOp a.eval o).run P S.w=.ok (.value (.slice (some ⟨S.w.heap.size,0,none⟩) len cap)) (S.w.alloc (.cells (us++rest).toArray T)))
 (hK:K (.own S.H.length 0 len sz 0) (S.H++[⟨cells,T,0,true⟩])):Eff P S a o K:=by
 refine⟨.slice (some ⟨S.w.heap.size,0,none⟩) len cap,S.new cells T 0 us rest,_,.inl ?_,ext_new S hS _ _ _ _ _,sim_new hS T 0 rest hv (hv.unders hc),?_,hK⟩
 · rw[hrun]; simp[St.new]
 · refine .own _ _ _ _ _ _ _ _ (new_at S cells T us rest) (Nat.le_refl _) hlc (fun h=>by cases h) fun _ => ?_
   simp only[St.OwnAt,St.new,upd_same]
   refine .inr ⟨trivial,T,(us++rest).length,?_,by omega⟩
   unfold World.shape?
   rw[heap_alloc_at]
   simp
theorem eff_fill (hS:Sim S) {cells:List SV} {T:TypeId} {us rest:List Value} {i len cap sz:Nat} (ho:S.H[i]? = some ⟨[],T,0,false⟩) (hv:VRs S cells us) (hc:cellsOk cells) {o:Oper} {K:SV->List AO->Prop}
 (hlc:len≤cap) (hsz:cap*sz≤(us++rest).length)
 (hrun:(execOp a.eval o).run P S.w=.ok (.value (.slice (some ⟨S.w.heap.size,0,none⟩) len cap)) (S.w.alloc (.cells (us++rest).toArray T)))
 (hK:K (.own i 0 len sz 1) (S.H.set i ⟨cells,T,1,true⟩)):Eff P S a o K:=by
 have hmv:=sim_move hS (i:=i) (o':=⟨cells,T,1,true⟩) (us:=us) rest ho (by simp) rfl hv (hv.unders hc)
 refine⟨.slice (some ⟨S.w.heap.size,0,none⟩) len cap,S.move i ⟨cells,T,1,true⟩ us rest,_,.inl ?_,ext_move ho (by simp),hmv,?_,hK⟩
 · rw[hrun]; rfl
 · refine .own _ _ _ _ _ _ _ _ (List.getElem?_set_self (getElem?_lt ho)) (Nat.le_refl _) hlc (fun h=>by cases h) fun _ => ?_
   simp only[St.OwnAt,St.move,upd_same]
   refine .inr ⟨trivial,T,(us++rest).length,?_,by omega⟩
   unfold World.shape?
   rw[heap_alloc_at]
   simp
theorem eff_fillp (hS:Sim S) {cells:List SV} {T:TypeId} {us:List Value} {i:Nat} (ho:S.H[i]? = some ⟨[],T,0,false⟩) (hv:VRs S cells us) (hc:cellsOk cells) {o:Oper} {K:SV->List AO->Prop}
 (hrun:(execOp a.eval o).run P S.w=.ok (.value (.pointer (some ⟨S.w.heap.size,0,none⟩))) (S.w.alloc (.cells us.toArray T)))
 (hK:K (.ptr (.own i 0 0 0 1) 0) (S.H.set i ⟨cells,T,1,true⟩)):Eff P S a o K:=by
 have hmv:=sim_move hS (i:=i) (o':=⟨cells,T,1,true⟩) (us:=us) [] ho (by simp) rfl hv (hv.unders hc)
 refine⟨.pointer (some ⟨S.w.heap.size,0,none⟩),S.move i ⟨cells,T,1,true⟩ us [],_,.inl ?_,ext_move ho (by simp),hmv,?_,hK⟩
 · rw[hrun]; simp[St.move]
 · exact .ptrO _ _ _ _ _ _ _ _ (List.getElem?_set_self (getElem?_lt ho)) (Nat.le_refl _) fun _=>⟨S.w.heap.size,by simp[St.move,upd_same],rfl⟩
theorem setObj_some {H:List AO} {i:Nat} {o:AO} (h:H[i]? = some o) (f:AO->AO):setObj H i f=H.set i (f o):=by unfold setObj; rw[h]
theorem bslB_spec:∀ {ps:List (Nat×Operand)} {qs:List (Nat×Od)},bslB ps qs=true->EnvR S e a.tmps →
 ps.length=qs.length∧∀ (j:Nat) (p:Nat×Operand) (q:Nat×Od),ps[j]? = some p->qs[j]? = some q->p.1=q.1∧VR S (e.ev q.2) (a.eval p.2)
 | [],[],_,_=>⟨rfl,fun j p q h=>by simp at h⟩
 | [],_::_,h,_=>by simp[bslB]at h
 | _::_,[],h,_=>by simp[bslB]at h
 | (f,x)::ps,(f',y)::qs,h,he=>by
  simp only[bslB,Bool.and_eq_true,beq_iff_eq]at h
  obtain⟨h1,h2⟩:=bslB_spec h.2 he
  refine⟨by simp[h1],?_⟩
  intro j p q hp hq
  cases j with
  | zero=>simp at hp hq; subst hp hq; exact⟨h.1.1,chkOd_spec h.1.2 he⟩
  | succ j=>exact h2 j p q (by simpa using hp) (by simpa using hq)
theorem zeros_get {z:List Value} (hz:0<z.length) (n j:Nat):(List.replicate n z).flatten[j]? = if j<n*z.length then z[j % z.length]? else none:=by
 induction n generalizing j with
 | zero=>simp
 | succ n ih =>
  rw[List.replicate_succ,List.flatten_cons,List.getElem?_append]
  by_cases h:j<z.length
  · rw[if_pos h,if_pos (by rw[Nat.succ_mul]; omega),Nat.mod_eq_of_lt h]
  · rw[if_neg h,ih]
    have e1:(j-z.length) % z.length=j % z.length:=by
     rw[←Nat.mod_eq_sub_mod (by omega)]
    have e2:(j-z.length<n*z.length)↔(j<(n+1)*z.length):=by rw[Nat.succ_mul]; omega
    simp only[e1,e2]
theorem made_eq {z:List Value} (n:Nat):madeCells z.toArray (n*z.length)=(List.replicate n z).flatten.toArray:=by
 apply Array.ext'
 simp only[madeCells,Array.toList_map,Array.toList_range]
 apply List.ext_getElem?
 intro j
 by_cases hz:0<z.length
 · rw[zeros_get hz,List.getElem?_map]
   by_cases h:j<n*z.length
   · rw[if_pos h,List.getElem?_range h]
     have h2:j % z.length<z.length:=Nat.mod_lt _ hz
     simp[h2]
   · rw[if_neg h,List.getElem?_eq_none (by simp; omega)]; rfl
 · have hz0:z=[]:=by cases z with | nil=>rfl | cons _ _=>simp at hz
   subst hz0
   simp

theorem VRs.zeros {z:List SV} {us:List Value} (h:VRs S z us) (n:Nat):VRs S (List.replicate n z).flatten (List.replicate n us).flatten:=by
 induction n with
 | zero=>simpa using VRs.nil S
 | succ n ih=>rw[List.replicate_succ,List.replicate_succ,List.flatten_cons,List.flatten_cons]; exact h.append ih
theorem cellsOk_zeros {z:List SV} (h:cellsOk z) (n:Nat):cellsOk (List.replicate n z).flatten:=by
 intro s hs
 simp only[List.mem_flatten,List.mem_replicate]at hs
 obtain⟨l,⟨_,rfl⟩,hs⟩:=hs
 exact h s hs
theorem length_zeros {α:Type} (z:List α) (n:Nat):(List.replicate n z).flatten.length=n*z.length:=by simp
end
end Go.Ab
namespace Go.Ab
variable [GlobEnv] [FrEnv] [KnEnv]
section
variable {P:Program} {S:St} {e:Env} {a:Act}
def E.isCall:E->Bool
 | .call _ _=>true
 | .pan _=>true
 | .calln _ _=>true
 | _=>false
theorem objCells_of {H:List AO} {i:Nat} {o:AO} (ho:H[i]? = some o) (hl:o.live=true):objCells H i o.ver=o.cells:=by
 unfold objCells; rw[ho]; simp[hl]
theorem AO.grow_eq {o:AO} (h:o.live=true) (cs:List SV):o.grow cs=⟨o.cells++cs,o.ty,o.ver+1,true⟩:=by cases o; simp[AO.grow]at *; exact h
theorem VR.own_inv {i off n sz ver:Nat} {v:Value} {o:AO} (h:VR S (.own i off n sz ver) v) (ho:S.H[i]? = some o) (hv:o.ver=ver) :
 ∃ ad cap,v=.slice ad n cap∧n≤cap∧(ad=none->n=0)∧S.OwnAt i off n sz ad cap:=by
 cases h with
 | own _ _ _ _ _ ad cap o' ho' hvl hcap hz hat =>
  rw[ho]at ho'; cases ho'
  exact⟨ad,cap,rfl,hcap,hz,hat hv⟩
theorem VR.nil_len {s:SV} {n c:Nat} (h:VR S s (.slice none n c)) (hn:n=s.slen):n=0:=by
 generalize hv:Value.slice none n c=v at h
 cases h with
 | nilslc=>exact hn
 | own i off len sz ver ad cap o ho hv' hc hz hat=>cases hv; exact hz rfl
 | val v=>exact hn
 | any v=>exact hn
 | gd b x v h0 h=>exact hn
 | pn x v h hr hp=>exact hn
 | _=>cases hv
theorem eval_const (a:Act) (v:Value):a.eval (.const v)=v:=rfl
theorem run_eq_nil_sl (d:Nat) {t el:TypeId} (h:P.underlying t=some (.slice el)) (ad:Option Addr) (n c:Nat) (w:World):(Op.equalIn (d+1) t (.slice none 0 0) (.slice ad n c)).run P w=.ok ad.isNone w:=by
 cases ad<;>simp[Op.equalIn,run_underlying h]
theorem VR.isNil {s:SV} {v:Value} (h:VR S s v) (hs:s.isNil=true):v=.slice none 0 0:=by
 unfold SV.isNil at hs
 split at hs
 · cases h; rfl
 · cases hs
theorem arr_app (l:List Value) (z:Array Value):l.toArray++z=(l++z.toList).toArray:=by apply Array.ext'; simp
theorem zeroCells_length (z:Array Value) (n:Nat):(Builtin.zeroCells z n).toList.length=n*z.size:=by simp[Builtin.zeroCells]
theorem run_append_room_row (w:World) (t tx ty e:TypeId) (i:TypeInfo) (ht:P.underlying t=some (.slice e)) (hi:P.info? e=some i)
 (g sLen sCap:Nat) (cur:Array Value) (hg:w.heap[g]? = some (.cells cur e (0,0))) (x:Value) (m:Nat) (news:List Value) (hs:Src P i.size tx x m news w)
 (hroom:sLen+m≤sCap) (hfit:sLen*i.size+news.length≤cur.size) :
 (Builtin.append_ #[t,tx] ty #[.slice (some ⟨g,0,none⟩) sLen sCap,x]).run P w =
  .ok (.slice (some ⟨g,0,none⟩) (sLen+m) sCap) (w.setRow g (cur.toList.take (sLen*i.size)++news++cur.toList.drop (sLen*i.size+news.length)).toArray):=by
 have hst:=run_storeCells_at P g (sLen*i.size) e news 0 cur w hg (by simpa using hfit) hs.one
 simp only[Nat.add_zero]at hst
 rcases hs.kind with ⟨e',hk⟩ | hk<;>simp[Builtin.append_,run_underlying ht,run_underlying hk,sizeOf,typeInfo,hi,hs.len,hroom,hs.cells,Addr.add_lit,hst]
theorem src_slice {sz:Nat} {t T:TypeId} (hu:P.underlying t=some (.slice T)) {w:World} {adx:Option Addr} {m capx:Nat} {news:List Value} (hx2:news.length=m*sz)
 (hx4:∀ x,adx=some x->∀ j u,news[j]? = some u->w.cell? (x.add j)=some u) (hx5:adx=none->m=0) (h1:∀ u∈news,u.oneCell'=true):Src P sz t (.slice adx m capx) m news w:=by
 cases adx with
 | none =>
  have h0:=hx5 rfl
  subst h0
  have:news=[]:=List.eq_nil_of_length_eq_zero (by rw[hx2]; simp)
  subst this
  exact Src.ofNil w hu capx
 | some a=>exact Src.ofSlice w hu a m capx news hx2 (hx4 a rfl) h1
theorem append_src (hS:Sim S) {t t2 T ty:TypeId} {sz bytes:Nat} (hu:P.underlying t=some (.slice T)) (hinf:infoB P T sz bytes=true)
 {i0 n ver:Nat} {ob:AO} (ho:S.H[i0]? = some ob) (hl:ob.live=true) (hver:ob.ver=ver) (hty:ob.ty=T) (hlen:ob.cells.length=n*sz)
 {ads:Option Addr} {cap:Nat} (hcap:n≤cap) (hz:ads=none->n=0) (h6:S.OwnAt i0 0 n sz ads cap)
 {xv:Value} {m:Nat} {news:List Value} {xs:List SV} (hsr:Src P sz t2 xv m news S.w) (hx3:VRs S xs news) (g5:cellsOk xs)
 (g6:(n+m)*bytes≤140737488355328) (g7:n+m≤140737488355328) :
 ∃ v' S',(Builtin.append_ #[t,t2] ty #[.slice ads n cap,xv]).run P S.w=.ok v' S'.w∧Ext S.H.length S S'∧Sim S' ∧
  VR S' (.own i0 0 (n+m) sz (ver+1)) v'∧S'.H=S.H.set i0 (ob.grow xs):=by
 obtain⟨i,zv,hi,hzv,hsz,hby,hzs⟩:=infoB_spec hinf
 have hsr':Src P i.size t2 xv m news S.w:=by rw[hsz]; exact hsr
 have hx2:=hsr.newsLen
 have hone:=hx3.oneCells g5
 have hlt:i0<S.H.length:=getElem?_lt ho
 have hself:∀ q:AO,(S.H.set i0 q)[i0]? = some q:=fun q=>List.getElem?_set_self hlt
 have hgrow:∀ s∈(ob.cells++xs),s.under S.H.length=true∧s.isCell=true:=by
  intro s hs
  simp only[List.mem_append]at hs
  rcases hs with hs | hs
  · exact hS.belL ho hl s hs
  · exact hx3.unders g5 s hs
 rw[AO.grow_eq hl]
 unfold St.OwnAt at h6
 cases hρ:S.ρ i0 with
 | none =>
  rw[hρ]at h6
  obtain⟨rfl,rfl⟩:=h6
  have hcl:ob.cells=[]:=List.eq_nil_of_length_eq_zero (by simpa using hlen)
  by_cases hm0:m=0
  · subst hm0
    have hxs:xs=[]:=List.eq_nil_of_length_eq_zero (by rw[←hx3.1,hx2]; simp)
    subst hxs
    have hn0:news=[]:=List.eq_nil_of_length_eq_zero (by rw[hx2]; simp)
    rw[hn0]at hsr'
    have hr:=run_append_nothing (P:=P) S.w t t2 ty T i hu hi ads 0 0 (Nat.le_refl _) xv hsr'
    have hext:Ext S.H.length S ⟨S.ρ,S.H.set i0 ⟨ob.cells++[],ob.ty,ob.ver+1,true⟩,S.w⟩:=by
     refine⟨fun j p hj hp => ?_,fun k hk hn=>⟨rfl,?_⟩,Nat.le_refl _,fun _ _ _ h=>h,fun _ r h=>⟨r,h⟩,rfl,rfl,rfl⟩
     · by_cases hij:j=i0
       · subst hij
         rw[ho]at hp; cases hp
         exact⟨_,hself _,by simp,fun _=>rfl⟩
       · exact⟨p,by show(S.H.set i0 _)[j]? = _; rw[List.getElem?_set_ne (by omega)]; exact hp,Nat.le_refl _,fun _=>rfl⟩
     · rintro⟨j,p,hp,hpl,hpρ⟩
       by_cases hij:j=i0
       · simp only at hpρ; rw[hij,hρ]at hpρ; cases hpρ
       · simp only at hp; rw[List.getElem?_set_ne (by omega)]at hp; exact hn ⟨j,p,hp,hpl,hpρ⟩
    refine⟨.slice ads 0 0,⟨S.ρ,S.H.set i0 ⟨ob.cells++[],ob.ty,ob.ver+1,true⟩,S.w⟩,hr,hext,?_,?_,rfl⟩
    · refine hS.step hext (by simp) ?_ ?_
      · intro j p hp
        by_cases hij:j=i0
        · subst hij
          simp only[hself]at hp; cases hp
          refine .inr ⟨fun _=>by simp only[hρ]; simp[hcl],fun s hs => ?_,fun e=>by cases e⟩
          exact⟨by simpa using (hgrow s hs).1,fun _=>(hgrow s hs).2⟩
        · exact .inl ⟨by simp only at hp; rw[List.getElem?_set_ne (by omega)]at hp; exact hp,rfl,fun _ _ _=>rfl⟩
      · intro j k p q b' hj hk hjl hkl hρj hρk
        have key:∀ (j:Nat) (p:AO),(S.H.set i0 ⟨ob.cells++[],ob.ty,ob.ver+1,true⟩)[j]? = some p->S.ρ j=some b'->S.H[j]? = some p:=by
         intro j' p' hp' hq'
         by_cases hij:j'=i0
         · rw[hij,hρ]at hq'; cases hq'
         · rw[List.getElem?_set_ne (by omega)]at hp'; exact hp'
        exact hS.inj j k p q b' (key j p hj hρj) (key k q hk hρk) hjl hkl hρj hρk
    · refine .own i0 0 0 sz _ ads 0 _ (hself _) (by simp[hver]) (Nat.le_refl _) (fun _=>rfl) fun _ => ?_
      simp[St.OwnAt,hρ]
  · simp only[Nat.zero_add]at g6 g7
    have hf0:(Builtin.firstCells i.size 0 (.slice ads 0 0)).run P S.w.drew=.ok (([]:List Value).toArray) S.w.drew:=by cases ads<;>simp[Builtin.firstCells,loadCells,loadCellsFrom]
    have hr:(Builtin.append_ #[t,t2] ty #[.slice ads 0 0,xv]).run P S.w =
     .ok (.slice (some ⟨S.w.heap.size,0,none⟩) m (grownCap S.w m 0 T)) (S.w.drew.alloc (.cells (news.toArray++Builtin.zeroCells zv.cells (grownCap S.w m 0 T-m)) T)):=by
     have:=run_append_grow_src (P:=P) S.w t t2 ty T i zv hu hi hzv ads 0 0 [] hf0 xv m news hsr' (by omega) (by omega) (growslice_fits (by omega) (by rw[hby]; simpa using g6))
     simp only[Nat.zero_add,List.nil_append]at this
     exact this
    generalize hg:grownCap S.w m 0 T=gc at hr
    have hge:m≤gc:=by rw[←hg]; exact grownCap_ge _ _ _ _
    have hS':=sim_same hS (w':=S.w.drew) rfl rfl rfl rfl
    have hE':=ext_same (S:=S) (w':=S.w.drew) rfl rfl rfl rfl
    have hmv:=sim_move hS' (i:=i0) (o:=ob) (o':=⟨ob.cells++xs,ob.ty,ob.ver+1,true⟩) (us:=news) (Builtin.zeroCells zv.cells (gc-m)).toList ho (by simp) rfl
     (by simp only[hcl,List.nil_append]; exact hx3.ext hE') hgrow
    have hme:=ext_move (S:=⟨S.ρ,S.H,S.w.drew⟩) (i:=i0) (o:=ob) (o':=⟨ob.cells++xs,ob.ty,ob.ver+1,true⟩) (us:=news) (rest:=(Builtin.zeroCells zv.cells (gc-m)).toList) ho (by simp)
    refine⟨.slice (some ⟨S.w.heap.size,0,none⟩) m gc,_,hr.trans ?_,hE'.trans hme,hmv,?_,rfl⟩
    · rw[arr_app,<- hty]; rfl
    · simp only[Nat.zero_add]
      refine .own i0 0 _ sz _ _ _ _ (hself _) (by simp[hver]) hge (fun h=>by cases h) fun _ => ?_
      simp only[St.OwnAt,St.move,upd_same]
      refine .inr ⟨rfl,T,(news++(Builtin.zeroCells zv.cells (gc-m)).toList).length,?_,?_⟩
      · unfold World.shape?
        have h9:=heap_alloc_at S.w.drew (.cells (news++(Builtin.zeroCells zv.cells (gc-m)).toList).toArray ob.ty)
        simp only[World.size_drew]at h9 ⊢
        rw[h9]; simp[hty]
      · simp only[List.length_append,hx2,zeroCells_length,hzs]
        rw[←Nat.add_mul]
        have:m+(gc-m)=gc:=by omega
        rw[this]; simp
 | some b =>
  have h7:=hS.live i0 ob ho hl
  rw[hρ]at h7 h6
  obtain⟨us,rest,hh,hvr⟩:=h7
  have hblt:b<S.w.heap.size:=hS.lt ⟨i0,ob,ho,AO.own_live hl,hρ⟩
  have husl:us.length=n*sz:=by rw[hvr.1,hlen]
  by_cases hroom:n+m≤cap
  · -- there is room
    by_cases hm0:m=0
    · subst hm0
      have hxs:xs=[]:=List.eq_nil_of_length_eq_zero (by rw[←hx3.1,hx2]; simp)
      subst hxs
      have hn0:news=[]:=List.eq_nil_of_length_eq_zero (by rw[hx2]; simp)
      rw[hn0]at hsr'
      have hr:=run_append_nothing (P:=P) S.w t t2 ty T i hu hi ads n cap hcap xv hsr'
      obtain⟨hs1,hs2⟩:=sim_put hS (cells:=ob.cells++[]) (ver:=ob.ver+1) ho hl hρ (by omega) (us:=us) (rest:=rest) hh (by simp) (by simpa using hvr) hgrow (w':=S.w) (by
       have:S.w.heap.setIfInBounds b (.cells (us++rest).toArray ob.ty (0,0))=S.w.heap:=by
        apply Array.ext_getElem?
        intro j
        rw[Array.getElem?_setIfInBounds]
        by_cases h:b=j
        · subst h; rw[if_pos rfl,if_pos hblt,hh]
        · rw[if_neg h]
       rw[this])
      refine⟨.slice ads n cap,⟨S.ρ,S.H.set i0 ⟨ob.cells++[],ob.ty,ob.ver+1,true⟩,S.w⟩,hr,hs2,hs1,?_,rfl⟩
      refine .own i0 0 _ sz _ ads cap _ (hself _) (by simp[hver]) (by omega) (by simpa using hz) fun _ => ?_
      simpa[St.OwnAt,hρ]using h6
    · rcases h6 with h6 | ⟨h6,T',N,h8,h9⟩
      · omega
      subst h6
      have hN:N=us.length+rest.length:=by
       unfold World.shape? at h8; rw[hh]at h8; simp at h8; omega
      have hfit:n*sz+m*sz≤us.length+rest.length:=by
       have:(n+m)*sz≤cap*sz:=Nat.mul_le_mul_right _ hroom
       rw[Nat.add_mul]at this; omega
      have hr:=run_append_room_row (P:=P) S.w t t2 ty T i hu hi b n cap (us++rest).toArray (by rw[←hty]; exact hh) xv m news hsr' hroom
       (by rw[hx2,hsz]; simpa using hfit)
      rw[setRow_eq S.w b _ _ ob.ty (0,0) hh]at hr
      have hcells:((us++rest).toArray.toList.take (n*i.size)++news++(us++rest).toArray.toList.drop (n*i.size+news.length))=(us++news)++rest.drop (m*sz):=by
       rw[hsz,<- husl,hx2]
       simp[List.drop_append]
      rw[hcells]at hr
      obtain⟨hs1,hs2⟩:=sim_put hS (cells:=ob.cells++xs) (ver:=ob.ver+1) ho hl hρ (by omega) (us:=us++news) (rest:=rest.drop (m*sz)) hh (by simp[hx2]; omega) (hvr.append hx3) hgrow (w':=_) rfl
      refine⟨_,_,hr,hs2,hs1,?_,rfl⟩
      refine .own i0 0 _ sz _ _ cap _ (hself _) (by simp[hver]) hroom (fun h=>by cases h) fun _ => ?_
      simp only[St.OwnAt,hρ]
      exact .inr ⟨trivial,T',N,hs2.shape _ _ _ h8,h9⟩
  · -- a new row
    have hm0:m≠0:=by omega
    have holds:∀ j v,us[j]? = some v->S.w.cell? ((⟨b,0,none⟩:Addr).add j)=some v:=by
     intro j v hj
     have hadd:(⟨b,0,none⟩:Addr).add j=⟨b,j,none⟩:=by unfold Addr.add; split<;>simp_all
     rw[hadd]
     unfold World.cell?
     simp only[hh,Option.isSome_none,Bool.false_eq_true,if_false]
     simp[List.getElem?_append_left (getElem?_lt hj),hj]
    have hr:∃ bb:Addr,(ads=some bb∧∀ j v,us[j]? = some v->S.w.cell? (bb.add j)=some v)∨ads=none:=by
     cases ads with
     | none=>exact⟨default,.inr rfl⟩
     | some bb =>
      refine⟨bb,.inl ⟨rfl,?_⟩⟩
      rcases h6 with h6 | ⟨h6,_⟩
      · have:n=0:=by omega
        subst this
        have:us=[]:=List.eq_nil_of_length_eq_zero (by simpa using husl)
        subst this
        intro j v hj; simp at hj
      · cases h6; exact holds
    have hrun:∃ gc,n+m≤gc∧(Builtin.append_ #[t,t2] ty #[.slice ads n cap,xv]).run P S.w =
     .ok (.slice (some ⟨S.w.heap.size,0,none⟩) (n+m) gc) (S.w.drew.alloc (.cells ((us++news)++(Builtin.zeroCells zv.cells (gc-(n+m))).toList).toArray T)):=by
     have hfc:(Builtin.firstCells i.size n (.slice ads n cap)).run P S.w.drew=.ok us.toArray S.w.drew:=by
      obtain⟨bb,hr | hr⟩:=hr
      · obtain⟨rfl,hol⟩:=hr
        exact run_firstCells_some S.w.drew i.size n bb n cap us (by rw[husl,hsz]) (by simpa using hol)
      · subst hr
        have:n=0:=hz rfl
        subst this
        have hus:us=[]:=List.eq_nil_of_length_eq_zero (by simpa using husl)
        subst hus
        exact run_firstCells_none S.w.drew i.size 0 0 cap
     refine⟨grownCap S.w (n+m) cap T,grownCap_ge _ _ _ _,?_⟩
     rw[run_append_grow_src (P:=P) S.w t t2 ty T i zv hu hi hzv ads n cap us hfc xv m news hsr' (by omega) (by omega) (growslice_fits (by omega) (by rw[hby]; exact g6)),arr_app]
    obtain⟨gc,hge,hrun⟩:=hrun
    have hS':=sim_same hS (w':=S.w.drew) rfl rfl rfl rfl
    have hE':=ext_same (S:=S) (w':=S.w.drew) rfl rfl rfl rfl
    have hmv:=sim_move hS' (i:=i0) (o:=ob) (o':=⟨ob.cells++xs,ob.ty,ob.ver+1,true⟩) (us:=us++news) (Builtin.zeroCells zv.cells (gc-(n+m))).toList ho (by simp) rfl
     ((hvr.append hx3).ext hE') hgrow
    have hme:=ext_move (S:=⟨S.ρ,S.H,S.w.drew⟩) (i:=i0) (o:=ob) (o':=⟨ob.cells++xs,ob.ty,ob.ver+1,true⟩) (us:=us++news) (rest:=(Builtin.zeroCells zv.cells (gc-(n+m))).toList) ho (by simp)
    refine⟨.slice (some ⟨S.w.heap.size,0,none⟩) (n+m) gc,_,hrun.trans ?_,hE'.trans hme,hmv,?_,rfl⟩
    · simp[St.move,hty]
    · refine .own i0 0 _ sz _ _ _ _ (hself _) (by simp[hver]) hge (fun h=>by cases h) fun _ => ?_
      simp only[St.OwnAt,St.move,upd_same]
      refine .inr ⟨rfl,T,((us++news)++(Builtin.zeroCells zv.cells (gc-(n+m))).toList).length,?_,?_⟩
      · unfold World.shape?
        have h9:=heap_alloc_at S.w.drew (.cells ((us++news)++(Builtin.zeroCells zv.cells (gc-(n+m))).toList).toArray ob.ty)
        simp only[World.size_drew]at h9 ⊢
        rw[h9]; simp[hty]
      · simp only[List.length_append,hx2,husl,zeroCells_length,hzs]
        rw[←Nat.add_mul,<- Nat.add_mul]
        have:n+m+(gc-(n+m))=gc:=by omega
        rw[this]; simp
theorem ext_blk (o:Obj):Ext S.H.length S ⟨S.ρ,S.H,S.w.drew.alloc o⟩ where
 obj:=fun i p _ h=>⟨p,h,Nat.le_refl _,fun _=>rfl⟩
 imm:=fun k hk hn=>⟨heap_alloc_lt _ _ hk,hn⟩
 size:=by simp
 shape:=fun k T m h=>shape_alloc _ _ h
 loops:=fun k r h=>loops_alloc _ _ h
 os:=rfl
 tape:=rfl
 output:=rfl
theorem sim_blk (h:Sim S) (o:Obj):Sim ⟨S.ρ,S.H,S.w.drew.alloc o⟩ :=
 h.step (ext_blk o) (Nat.le_refl _) (fun i p hp=>.inl ⟨hp,rfl,fun b hb hl=>heap_alloc_lt _ _ (h.lt ⟨i,p,hp,hl,hb⟩)⟩) fun i j o o' b hi hj hl hl' h1 h2=>h.inj i j o o' b hi hj hl hl' h1 h2
theorem blk_bytes (hS:Sim S) (s:ByteArray) (cap:Nat) (T:TypeId) (f:Nat×Nat) (hc:s.size≤cap):Ext S.H.length S ⟨S.ρ,S.H,S.w.drew.alloc (.cells (bytesRow s cap) T f)⟩∧Sim ⟨S.ρ,S.H,S.w.drew.alloc (.cells (bytesRow s cap) T f)⟩ ∧
 VR ⟨S.ρ,S.H,S.w.drew.alloc (.cells (bytesRow s cap) T f)⟩ (.slc (sbyts s) s.size) (.slice (some ⟨S.w.heap.size,0,none⟩) s.size cap):=by
 refine⟨ext_blk _,sim_blk hS _,.slc _ _ _ _ (s.data.toList.map fun b=>.int .u8 b.toNat) hc (by simp[sbyts]) ⟨?_,fun _ hrw => ?_,fun _ _=>.inr (by rw[List.all_eq_true]; intro u hu; obtain⟨b,_,rfl⟩:=List.mem_map.1 hu; rfl)⟩ ?_⟩
 · intro j u hj
   rw[List.getElem?_map,Option.map_eq_some_iff]at hj
   obtain⟨b,hb,rfl⟩:=hj
   have hlt:j<s.data.size:=by have:=getElem?_lt hb; simpa using this
   have h1:=bytesRow_at s cap j hlt
   have h2:=heap_alloc_at S.w.drew (.cells (bytesRow s cap) T f)
   have hb':s.data[j]=b:=by
    have h3:s.data[j]? = some b:=by simpa using hb
    rw[Array.getElem?_eq_getElem hlt]at h3; exact Option.some.inj h3
   rw[hb']at h1
   have e:((⟨S.w.heap.size,0,none⟩:Addr).add j)=⟨S.w.heap.size,j,none⟩:=by simp[Addr.add]; exact fun h=>h.symm
   rw[e]
   unfold World.cell?
   rw[show S.w.drew.heap.size=S.w.heap.size from rfl]at h2
   simp only[h2]
   exact h1
 · obtain⟨i,o,ho,hl,hρ⟩:=hrw
   have:S.w.heap.size<S.w.heap.size:=hS.lt ⟨i,o,ho,hl,hρ⟩
   omega
 · intro j u v h1 h2
   simp only[sbyts,List.getElem?_map,Option.map_eq_some_iff]at h1 h2
   obtain⟨b,hb,rfl⟩:=h1
   obtain⟨b',hb',rfl⟩:=h2
   rw[hb]at hb'; cases hb'
   exact .val _
theorem eff_sound (hS:Sim S) (he:EnvR S e a.tmps) {o:Oper} {i:E} (hc:chkE P o.op i=true) (hcall:i.isCall=false) {K:SV->List AO->Prop} (hs:xe i e.ev S.H K) :
 Eff P S a o K:=by
 generalize hop:o.op=op at hc
 cases i with
 | alc T z =>
  simp only[chkE]at hc
  split at hc
  · rw[Bool.and_eq_true,beq_iff_eq]at hc
    obtain⟨rfl,hz⟩:=hc
    obtain⟨zv,hrun,hv,hcl⟩:=zeroB_spec (S:=S) hz
    refine eff_ptr hS hv (fun s h=>(hcl s h).1) ?_ hs
    simp[execOp,hop,Instr.alloc,hrun,newVar,newRow]
  · cases hc
 | box T x' =>
  simp only[chkE]at hc
  split at hc
  · rw[Bool.and_eq_true,beq_iff_eq]at hc
    obtain⟨rfl,h1⟩:=hc
    obtain⟨g1,g2,g3⟩:=hs
    obtain⟨us,h2,h3⟩:=((chkOd_spec h1 he).ug g1).flat g2
    refine eff_ptr hS h3 g2 ?_ g3
    simp[execOp,hop,Instr.box,newVar,newRow,h2]
  · cases hc
 | bsl T sz len z parts =>
  simp only[chkE]at hc
  split at hc
  · rename_i t len' ps
    simp only[Bool.and_eq_true,beq_iff_eq,decide_eq_true_eq]at hc
    obtain⟨⟨⟨⟨⟨⟨h1,h2⟩,rfl⟩,h4⟩,h5⟩,h6⟩,h7⟩:=hc
    obtain⟨g1,g2,g3⟩:=hs
    have hu:=slTB_spec h1
    obtain⟨zv,hrun,hv,hcl⟩:=zeroB_spec (S:=S) h4
    obtain⟨hl,hq⟩:=bslB_spec (e:=e) h7 he
    have hzl:zv.cells.toList.length=sz:=by rw[hv.1,h5]
    have hvz:=hv.zeros len'
    obtain⟨cells,hf,hvf⟩:=fill_sound (S:=S) (fun i=>some (i*sz,sz)) (ps.toList.map fun p=>(p.1,a.eval p.2)) (parts.map fun p=>(p.1*sz,e.ev p.2))
     (List.replicate len' z).flatten (List.replicate len' zv.cells.toList).flatten hvz (by simpa using hl) (by
      intro j p q hpj hqj
      rw[List.getElem?_map]at hpj hqj
      cases hp0:ps.toList[j]? with
      | none=>rw[hp0]at hpj; cases hpj
      | some p0 =>
       cases hq0:parts[j]? with
       | none=>rw[hq0]at hqj; cases hqj
       | some q0 =>
        rw[hp0]at hpj; rw[hq0]at hqj
        simp at hpj hqj
        subst hpj hqj
        obtain⟨k1,k2⟩:=hq j p0 q0 hp0 hq0
        obtain⟨k3,k4⟩:=g1 q0 (List.mem_of_getElem? hq0)
        exact⟨sz,by simp[k1],k3,by rw[length_zeros,h5]; exact k4,k2⟩)
    have hlen:cells.length=len'*sz:=by
     rw[hvf.1]
     have:∀ (qs:List (Nat×SV)) (z:List SV),(∀ q∈qs,q.1+q.2.ug.flat.length≤z.length)->(fillS z qs).length=z.length:=by
      intro qs
      induction qs with
      | nil=>intro z _; rfl
      | cons q r ih =>
       intro z hz
       obtain⟨off,v⟩:=q
       have h8:=hz (off,v) (by simp)
       simp only[fillS]
       have h9:(z.take off++v.ug.flat++z.drop (off+v.ug.flat.length)).length=z.length:=by simp at h8 ⊢; omega
       rw[ih _ (by intro q hq; rw[h9]; exact hz q (by simp[hq]))]
       exact h9
     rw[this,length_zeros,h5]
     intro q hq
     simp only[List.mem_map]at hq
     obtain⟨p,hp,rfl⟩:=hq
     obtain⟨k3,k4⟩:=g1 p hp
     have k5:(e.ev p.2).ug.flat.length=sz:=by
      unfold partOk at k3
      split at k3
      · rename_i l hl; rw[hl]; exact k3.1
      · rename_i x hx
        unfold SV.flat; split
        · rename_i l hl; exact absurd hl (hx l)
        · simp[k3.1]
     rw[length_zeros,h5,k5]; exact k4
    refine eff_slice (rest:=[]) (cap:=len') hS hvf g2 (Nat.le_refl _) (by simp[hlen]) ?_ g3
    simp only[execOp,hop,Instr.buildSlice,Sem.run_bind,run_underlying hu,Result.andThen_ok,run_sizeOf' h2]
    rw[if_neg (by omega)]
    have hzz:(Array.range (len'*sz)).map (fun x=>zv.cells[x % zv.cells.size]!)=(List.replicate len' zv.cells.toList).flatten.toArray:=by
     have:=made_eq (z:=zv.cells.toList) len'
     rw[hzl]at this
     rw[←this]; simp[madeCells]
    have e1:(ps.map fun x=>(x.1,a.eval x.2)).toList=ps.toList.map fun p=>(p.1,a.eval p.2):=by simp
    by_cases h0:len'*sz=0
    · have hz0:(List.replicate len' zv.cells.toList).flatten=[]:=by
       apply List.eq_nil_of_length_eq_zero; rw[length_zeros,hzl]; exact h0
      rw[hz0]at hf
      simp only[h0,if_true,Sem.run_pure,Array.range_zero',Array.map_empty,e1,hf]
      simp[newRow]
    · simp only[h0,if_false,Sem.run_bind,hrun,Result.andThen_ok,Sem.run_pure,hzz,e1,hf]
      simp[newRow]
  · cases hc
 | mks T sz bytes z len cap =>
  simp only[chkE]at hc
  split at hc
  · rename_i t l c
    simp only[Bool.and_eq_true,beq_iff_eq]at hc
    obtain⟨⟨⟨⟨⟨h1,h2⟩,h4⟩,h5⟩,h6⟩,h7⟩:=hc
    obtain⟨g1,g2,g3,g4,g5,g6,g7⟩:=hs
    have hu:=slTB_spec h1
    obtain⟨i,zv,hi,hzv,hsz,hby,hzs⟩:=infoB_spec h2
    obtain⟨zv',hrun,hv,hcl⟩:=zeroB_spec (S:=S) h4
    have e1:zv'=zv:=by
     have:=hrun S.w
     simp[zeroValue,typeInfo,hi,hzv]at this
     exact this.symm
    subst e1
    have hzl:zv'.cells.toList.length=sz:=by rw[hv.1,h5]
    obtain⟨kl,hkl⟩:=(chkOd_spec h6 he).isN g1
    obtain⟨kc,hkc⟩:=(chkOd_spec h7 he).isN g2
    have hm:=run_make (P:=P) S.w t T i zv' hu hi hzv kl kc (e.ev len).int (e.ev cap).int g3 g4 (by rw[hby]; omega) (by omega)
    have hme:madeCells zv'.cells ((e.ev cap).int.toNat*i.size)=((List.replicate (e.ev len).int.toNat zv'.cells.toList).flatten++(List.replicate ((e.ev cap).int.toNat-(e.ev len).int.toNat) zv'.cells.toList).flatten).toArray:=by
     have h8:=made_eq (z:=zv'.cells.toList) (e.ev cap).int.toNat
     rw[hzl]at h8
     rw[hsz]
     have h9:(e.ev cap).int.toNat=(e.ev len).int.toNat+((e.ev cap).int.toNat-(e.ev len).int.toNat):=by omega
     rw[←List.flatten_append,List.replicate_append_replicate,<- h9,<- h8]
    refine eff_slice (cap:=(e.ev cap).int.toNat) (rest:=(List.replicate ((e.ev cap).int.toNat-(e.ev len).int.toNat) zv'.cells.toList).flatten) hS (hv.zeros _) (cellsOk_zeros (fun s h=>(hcl s h).1) _) (by omega) ?_ ?_ g7
    · rw[List.length_append,length_zeros,length_zeros,hzl,<- Nat.add_mul]
      apply Nat.mul_le_mul_right; omega
    · rw[←hme]
      simp[execOp,hop,hkl,hkc,hm]
  · cases hc
 | app T sz bytes s x =>
  simp only[chkE]at hc
  split at hc
  · rename_i as ts
    split at hc
    · rename_i s' x' t t' ha ht
      simp only[Bool.and_eq_true,beq_iff_eq,decide_eq_true_eq]at hc
      obtain⟨⟨⟨⟨⟨rfl,h1⟩,h2⟩,h3⟩,h4⟩,h5⟩:=hc
      obtain⟨g1,g2,g3,g4,g5,g6,g7,g8⟩:=hs
      have ha':as = #[s',x']:=by rw[←ha]
      have ht':ts = #[t,t]:=by rw[←ht]
      subst ha' ht'
      obtain⟨adx,capx,news,hx1,hx2,hx3,hx4,hx5⟩:=VR.els hS ((chkOd_spec h2 he).ug g2) g3 g4
      have hs0:=(chkOd_spec h1 he).ug g1
      split at g8
      · rename_i i0 n sz' ver hown
        rw[hown]at g6 g7 hs0
        simp only[SV.slen]at g6 g7
        obtain⟨rfl,⟨ob,ho,hl,hver,hty,hlen⟩,hK⟩:=g8
        rw[setObj_some ho]at hK
        obtain⟨ads,cap,hsv,hcap,hz,hat⟩:=hs0.own_inv ho hver
        obtain⟨v',S',hr,hext,hsim,hvr,hH⟩:=append_src (ty:=o.type) hS (slTB_spec h3) h4 ho hl hver hty hlen hcap hz hat (src_slice (capx:=capx) (slTB_spec h3) hx2 hx4 hx5 (hx3.oneCells g5)) hx3 g5 g6 g7
        refine⟨v',S',_,.inl ?_,hext,hsim,hvr,?_⟩
        · have h9:(execOp a.eval o).run P S.w=((Builtin.append_ #[t,t] o.type #[.slice ads n cap,.slice adx (e.ev x).ug.slen capx]).run P S.w).andThen fun v w'=>.ok (.value v) w':=by
           simp[execOp,hop,resolve,invoke,builtin,hsv,hx1]
          rw[h9,hr]; rfl
        · rw[hH]; exact hK
      · obtain⟨hnil,hK⟩:=g8
        have hsv:=hs0.isNil hnil
        have hn0:(e.ev s).ug.slen=0:=by
         generalize (e.ev s).ug=w at hnil
         cases w<;>simp[SV.isNil]at hnil<;>rfl
        rw[hn0]at g6 g7
        have hap:=append_src (ty:=o.type) (i0:=S.H.length) (n:=0) (ver:=0) (ob:=⟨[],T,0,true⟩) (ads:=none) (cap:=0) (sim_newNil hS T) (slTB_spec h3) h4 (by simp[St.newNil]) rfl rfl rfl (by simp) (Nat.le_refl _) (fun _=>rfl)
         (by simp[St.OwnAt,St.newNil,upd_same]) (src_slice (w:=(S.newNil T).w) (capx:=capx) (slTB_spec h3) hx2 hx4 hx5 (hx3.oneCells g5)) (hx3.ext (ext_newNil S T)) g5 g6 g7
        obtain⟨v',S',hr,hext,hsim,hvr,hH⟩:=hap
        have hl0:S.H.length≤(S.newNil T).H.length:=by simp[St.newNil]
        refine⟨v',S',_,.inl ?_,(ext_newNil S T).trans (hext.mono hl0),hsim,hvr,?_⟩
        · have h9:(execOp a.eval o).run P S.w=((Builtin.append_ #[t,t] o.type #[.slice none 0 0,.slice adx (e.ev x).ug.slen capx]).run P S.w).andThen fun v w'=>.ok (.value v) w':=by
           simp[execOp,hop,resolve,invoke,builtin,hsv,hx1]
          have hr':(Builtin.append_ #[t,t] o.type #[.slice none 0 0,.slice adx (e.ev x).ug.slen capx]).run P S.w=.ok v' S'.w:=hr
          rw[h9,hr']; rfl
        · rw[hH]
          have:(S.newNil T).H.set S.H.length ((⟨[],T,0,true⟩:AO).grow ((e.ev x).ug.els S.H sz))=S.H++[⟨(e.ev x).ug.els S.H sz,T,1,true⟩]:=by
           simp[St.newNil,AO.grow]
          rw[this,Nat.zero_add]; exact hK
    · cases hc
  · cases hc
 | st n p x =>
  simp only[chkE]at hc
  split at hc
  · rename_i t p' x'
    simp only[Bool.and_eq_true]at hc
    obtain⟨⟨h1,h2⟩,h3⟩:=hc
    obtain⟨g1,g2,g3,g4,g5,g6⟩:=hs
    obtain⟨us,hx1,hx2⟩:=((chkOd_spec h2 he).ug g2).flat g3
    have hp:=(chkOd_spec h1 he).ug g1
    split at g6
    · rename_i i0 off l0 s0 ver k hpt
      rw[hpt]at hp
      obtain⟨g6,hK⟩:=g6
      have hk0:off+k<(objCells S.H i0 ver).length:=by omega
      obtain⟨ob,b,us0,rest,u,ho,hl,hver,hρ,hh,hvr,_⟩:=hS.read (List.getElem?_eq_getElem hk0)
      have hob:objCells S.H i0 ver=ob.cells:=by rw[←hver]; exact objCells_of ho hl
      rw[hob]at g6
      rw[setObj_some ho]at hK
      have husl:us.length=n:=by rw[hx2.1,g4]
      have hus0:us0.length=ob.cells.length:=hvr.1
      generalize hpv:a.eval p'=pv at hp
      cases hp with
      | ptrO _ _ _ _ _ _ ad o' ho' hvl hat =>
       rw[ho]at ho'; cases ho'
       obtain⟨b',hb',had⟩:=hat hver
       rw[hρ]at hb'; cases hb'
       subst had
       have hst:=run_storeCells_at P b (off+k) ob.ty us 0 (us0++rest).toArray S.w hh (by simp; omega) (hx2.oneCells g3)
       simp only[Nat.add_zero]at hst
       rw[setRow_eq S.w b _ _ ob.ty (0,0) hh]at hst
       have hcells:((us0++rest).toArray.toList.take (off+k)++us++(us0++rest).toArray.toList.drop (off+k+us.length))=(us0.take (off+k)++us++us0.drop (off+k+us.length))++rest:=by
        have e1:off+k≤us0.length:=by omega
        have e2:off+k+us.length≤us0.length:=by omega
        simp[List.take_append_of_le_length e1,List.drop_append_of_le_length e2]
       rw[hcells]at hst
       have hv':VRs S (ob.cells.take (off+k)++(e.ev x).ug.flat++ob.cells.drop (off+k+(e.ev x).ug.flat.length)) (us0.take (off+k)++us++us0.drop (off+k+us.length)):=by
        have:us.length=(e.ev x).ug.flat.length:=hx2.1
        rw[this]
        exact((hvr.take _).append hx2).append (hvr.drop _)
       have hput:ob.put (off+k) (e.ev x).ug.flat=⟨ob.cells.take (off+k)++(e.ev x).ug.flat++ob.cells.drop (off+k+(e.ev x).ug.flat.length),ob.ty,ob.ver,true⟩:=by
        cases ob; simp[AO.put]at *; exact hl
       rw[hput]at hK
       obtain⟨hs1,hs2⟩:=sim_put hS (cells:=ob.cells.take (off+k)++(e.ev x).ug.flat++ob.cells.drop (off+k+(e.ev x).ug.flat.length)) (ver:=ob.ver) ho hl hρ (Nat.le_refl _)
        (us:=us0.take (off+k)++us++us0.drop (off+k+us.length)) (rest:=rest) hh (by simp; omega) hv' (by
         intro s hs
         simp only[List.mem_append]at hs
         rcases hs with (hs | hs) | hs
         · exact hS.belL ho hl s (List.mem_of_mem_take hs)
         · exact hx2.unders g3 s hs
         · exact hS.belL ho hl s (List.mem_of_mem_drop hs)) (w':=_) rfl
       refine⟨undef,_,_,.inr ⟨?_,rfl⟩,hs2,hs1,.val _,hK⟩
       simp only[execOp,hop,hpv,Instr.storeAt,Instr.sureAddr,Sem.run_bind,Sem.run_pure,Result.andThen_ok,storeVar,run_sizeOf' h3,hx1]
       rw[if_neg (by simp[husl])]
       simp only[hst,Result.andThen_ok]
    · exact g6.elim
  · cases hc
 | stw ws n p x =>
  simp only[chkE]at hc
  split at hc
  · rename_i t p' x'
    simp only[Bool.and_eq_true]at hc
    obtain⟨⟨h1,h2⟩,h3⟩:=hc
    obtain⟨g1,g2,g3,g4,g5,g6⟩:=hs
    obtain⟨us,hx1,hx2⟩:=((chkOd_spec h2 he).ug g2).flat g3
    have hp:=(chkOd_spec h1 he).ug g1
    split at g6
    · rename_i i0 off l0 s0 ver k hpt
      rw[hpt]at hp
      obtain⟨g6,hK⟩:=g6
      have hk0:off+k<(objCells S.H i0 ver).length:=by omega
      obtain⟨ob,b,us0,rest,u,ho,hl,hver,hρ,hh,hvr,_⟩:=hS.read (List.getElem?_eq_getElem hk0)
      have hob:objCells S.H i0 ver=ob.cells:=by rw[←hver]; exact objCells_of ho hl
      rw[hob]at g6
      rw[setObj_some ho]at hK
      have husl:us.length=n:=by rw[hx2.1,g4]
      have hus0:us0.length=ob.cells.length:=hvr.1
      generalize hpv:a.eval p'=pv at hp
      cases hp with
      | ptrO _ _ _ _ _ _ ad o' ho' hvl hat =>
       rw[ho]at ho'; cases ho'
       obtain⟨b',hb',had⟩:=hat hver
       rw[hρ]at hb'; cases hb'
       subst had
       have hst:=run_storeCells_at P b (off+k) ob.ty us 0 (us0++rest).toArray S.w hh (by simp; omega) (hx2.oneCells g3)
       simp only[Nat.add_zero]at hst
       rw[setRow_eq S.w b _ _ ob.ty (0,0) hh]at hst
       have hcells:((us0++rest).toArray.toList.take (off+k)++us++(us0++rest).toArray.toList.drop (off+k+us.length))=(us0.take (off+k)++us++us0.drop (off+k+us.length))++rest:=by
        have e1:off+k≤us0.length:=by omega
        have e2:off+k+us.length≤us0.length:=by omega
        simp[List.take_append_of_le_length e1,List.drop_append_of_le_length e2]
       rw[hcells]at hst
       have hv':VRs S (ob.cells.take (off+k)++(e.ev x).ug.flat++ob.cells.drop (off+k+(e.ev x).ug.flat.length)) (us0.take (off+k)++us++us0.drop (off+k+us.length)):=by
        have:us.length=(e.ev x).ug.flat.length:=hx2.1
        rw[this]
        exact((hvr.take _).append hx2).append (hvr.drop _)
       have hput:ob.put (off+k) (e.ev x).ug.flat=⟨ob.cells.take (off+k)++(e.ev x).ug.flat++ob.cells.drop (off+k+(e.ev x).ug.flat.length),ob.ty,ob.ver,true⟩:=by
        cases ob; simp[AO.put]at *; exact hl
       rw[hput]at hK
       obtain⟨hs1,hs2⟩:=sim_put hS (cells:=ob.cells.take (off+k)++(e.ev x).ug.flat++ob.cells.drop (off+k+(e.ev x).ug.flat.length)) (ver:=ob.ver) ho hl hρ (Nat.le_refl _)
        (us:=us0.take (off+k)++us++us0.drop (off+k+us.length)) (rest:=rest) hh (by simp; omega) hv' (by
         intro s hs
         simp only[List.mem_append]at hs
         rcases hs with (hs | hs) | hs
         · exact hS.belL ho hl s (List.mem_of_mem_take hs)
         · exact hx2.unders g3 s hs
         · exact hS.belL ho hl s (List.mem_of_mem_drop hs)) (w':=_) rfl
       refine⟨undef,_,_,.inr ⟨?_,rfl⟩,hs2,hs1,.val _,hK⟩
       simp only[execOp,hop,hpv,Instr.storeAt,Instr.sureAddr,Sem.run_bind,Sem.run_pure,Result.andThen_ok,storeVar,run_sizeOf' h3,hx1]
       rw[if_neg (by simp[husl])]
       simp only[hst,Result.andThen_ok]
    · exact g6.elim
  · cases hc
 | nil T sz x =>
  obtain⟨g1,g2,g3⟩:=hs
  have hv:∀ (x':Operand),chkOd x' x=true->a.eval x'=.slice none 0 0:=by
   intro x' h
   exact((chkOd_spec h he).ug g1).isNil g2
  have main:(execOp a.eval o).run P S.w=.ok (.value (.slice none 0 0)) S.w:=by
   simp only[chkE]at hc
   split at hc
   · simp[execOp,hop,hv _ hc]
   · simp[execOp,hop,hv _ hc]
   · cases hc
  refine⟨_,S.newNil T,_,.inl main,ext_newNil S T,sim_newNil hS T,?_,g3⟩
  refine .own _ 0 0 sz 0 none 0 ⟨[],T,0,true⟩ (by simp[St.newNil]) (Nat.le_refl _) (Nat.le_refl _) (fun _=>rfl) fun _ => ?_
  simp[St.OwnAt,St.newNil,upd_same]
 | sl0 T sz x =>
  obtain⟨g1,g2,g3⟩:=hs
  simp only[chkE]at hc
  split at hc
  · rename_i t x' k1 k2
    rw[Bool.and_eq_true,Bool.and_eq_true]at hc
    obtain⟨⟨h1,h2⟩,h3⟩:=hc
    have hu:=slTB_spec h2
    obtain⟨i,hi⟩:=Option.isSome_iff_exists.1 h3
    obtain⟨ad,cap,hv⟩:=((chkOd_spec h1 he).ug g1).slen_spec g2
    have main:∃ ad',(execOp a.eval o).run P S.w=.ok (.value (.slice ad' 0 0)) S.w:=by
     refine⟨ad,?_⟩
     simp[execOp,hop,hv,Instr.sliceAt,Instr.slice,run_underlying hu,Instr.sliceBounds,Instr.sliceBound,asIntOf,eval_const,sizeOf,typeInfo,hi]
    obtain⟨ad',main⟩:=main
    refine⟨_,S.newNil T,_,.inl main,ext_newNil S T,sim_newNil hS T,?_,g3⟩
    refine .own _ 0 0 sz 0 ad' 0 ⟨[],T,0,true⟩ (by simp[St.newNil]) (Nat.le_refl _) (Nat.le_refl _) (fun _=>rfl) fun _ => ?_
    simp[St.OwnAt,St.newNil,upd_same]
  · cases hc
 | flo i0 T sz bytes z len cap =>
  simp only[chkE]at hc
  split at hc
  · rename_i t l c
    simp only[Bool.and_eq_true,beq_iff_eq]at hc
    obtain⟨⟨⟨⟨⟨h1,h2⟩,h4⟩,h5⟩,h6⟩,h7⟩:=hc
    obtain⟨g1,g2,g3,g4,g5,g6,g8,g7⟩:=hs
    have hu:=slTB_spec h1
    obtain⟨i,zv,hi,hzv,hsz,hby,hzs⟩:=infoB_spec h2
    obtain⟨zv',hrun,hv,hcl⟩:=zeroB_spec (S:=S) h4
    have e1:zv'=zv:=by
     have:=hrun S.w
     simp[zeroValue,typeInfo,hi,hzv]at this
     exact this.symm
    subst e1
    have hzl:zv'.cells.toList.length=sz:=by rw[hv.1,h5]
    obtain⟨kl,hkl⟩:=(chkOd_spec h6 he).isN g1
    obtain⟨kc,hkc⟩:=(chkOd_spec h7 he).isN g2
    have hm:=run_make (P:=P) S.w t T i zv' hu hi hzv kl kc (e.ev len).int (e.ev cap).int g3 g4 (by rw[hby]; omega) (by omega)
    have hme:madeCells zv'.cells ((e.ev cap).int.toNat*i.size)=((List.replicate (e.ev len).int.toNat zv'.cells.toList).flatten++(List.replicate ((e.ev cap).int.toNat-(e.ev len).int.toNat) zv'.cells.toList).flatten).toArray:=by
     have h8:=made_eq (z:=zv'.cells.toList) (e.ev cap).int.toNat
     rw[hzl]at h8
     rw[hsz]
     have h9:(e.ev cap).int.toNat=(e.ev len).int.toNat+((e.ev cap).int.toNat-(e.ev len).int.toNat):=by omega
     rw[←List.flatten_append,List.replicate_append_replicate,<- h9,<- h8]
    refine eff_fill (cap:=(e.ev cap).int.toNat) (rest:=(List.replicate ((e.ev cap).int.toNat-(e.ev len).int.toNat) zv'.cells.toList).flatten) hS g8 (hv.zeros _) (cellsOk_zeros (fun s h=>(hcl s h).1) _) (by omega) ?_ ?_ g7
    · rw[List.length_append,length_zeros,length_zeros,hzl,<- Nat.add_mul]
      apply Nat.mul_le_mul_right; omega
    · rw[←hme]
      simp[execOp,hop,hkl,hkc,hm]
  · cases hc
 | fle i0 T sz =>
  simp only[chkE]at hc
  split at hc
  · rename_i t len' ps
    simp only[Bool.and_eq_true,beq_iff_eq]at hc
    obtain⟨⟨⟨h1,h2⟩,rfl⟩,h3⟩:=hc
    obtain⟨g1,g2⟩:=hs
    have hu:=slTB_spec h1
    have hps:ps = #[]:=by simpa using h3
    subst hps
    refine eff_fill (us:=[]) (rest:=[]) (cap:=0) hS g1 (VRs.nil S) (fun s hs=>by simp at hs) (Nat.le_refl _) (by simp) ?_ g2
    simp only[execOp,hop,Instr.buildSlice,Sem.run_bind,run_underlying hu,Result.andThen_ok,run_sizeOf' h2]
    simp[newRow,Array.range_zero',Instr.fill]
  · cases hc
 | fla i0 T z =>
  simp only[chkE]at hc
  split at hc
  · rw[Bool.and_eq_true,beq_iff_eq]at hc
    obtain⟨rfl,hz⟩:=hc
    obtain⟨zv,hrun,hv,hcl⟩:=zeroB_spec (S:=S) hz
    refine eff_fillp hS hs.1 hv (fun s h=>(hcl s h).1) ?_ hs.2
    simp[execOp,hop,Instr.alloc,hrun,newVar,newRow]
  · cases hc
 | flb i0 T sz len z parts =>
  simp only[chkE]at hc
  split at hc
  · rename_i t len' ps
    simp only[Bool.and_eq_true,beq_iff_eq,decide_eq_true_eq]at hc
    obtain⟨⟨⟨⟨⟨⟨h1,h2⟩,rfl⟩,h4⟩,h5⟩,h6⟩,h7⟩:=hc
    obtain⟨g1,g2,g4,g3⟩:=hs
    have hu:=slTB_spec h1
    obtain⟨zv,hrun,hv,hcl⟩:=zeroB_spec (S:=S) h4
    obtain⟨hl,hq⟩:=bslB_spec (e:=e) h7 he
    have hzl:zv.cells.toList.length=sz:=by rw[hv.1,h5]
    have hvz:=hv.zeros len'
    obtain⟨cells,hf,hvf⟩:=fill_sound (S:=S) (fun i=>some (i*sz,sz)) (ps.toList.map fun p=>(p.1,a.eval p.2)) (parts.map fun p=>(p.1*sz,e.ev p.2))
     (List.replicate len' z).flatten (List.replicate len' zv.cells.toList).flatten hvz (by simpa using hl) (by
      intro j p q hpj hqj
      rw[List.getElem?_map]at hpj hqj
      cases hp0:ps.toList[j]? with
      | none=>rw[hp0]at hpj; cases hpj
      | some p0 =>
       cases hq0:parts[j]? with
       | none=>rw[hq0]at hqj; cases hqj
       | some q0 =>
        rw[hp0]at hpj; rw[hq0]at hqj
        simp at hpj hqj
        subst hpj hqj
        obtain⟨k1,k2⟩:=hq j p0 q0 hp0 hq0
        obtain⟨k3,k4⟩:=g1 q0 (List.mem_of_getElem? hq0)
        exact⟨sz,by simp[k1],k3,by rw[length_zeros,h5]; exact k4,k2⟩)
    have hlen:cells.length=len'*sz:=by
     rw[hvf.1]
     have:∀ (qs:List (Nat×SV)) (z:List SV),(∀ q∈qs,q.1+q.2.ug.flat.length≤z.length)->(fillS z qs).length=z.length:=by
      intro qs
      induction qs with
      | nil=>intro z _; rfl
      | cons q r ih =>
       intro z hz
       obtain⟨off,v⟩:=q
       have h8:=hz (off,v) (by simp)
       simp only[fillS]
       have h9:(z.take off++v.ug.flat++z.drop (off+v.ug.flat.length)).length=z.length:=by simp at h8 ⊢; omega
       rw[ih _ (by intro q hq; rw[h9]; exact hz q (by simp[hq]))]
       exact h9
     rw[this,length_zeros,h5]
     intro q hq
     simp only[List.mem_map]at hq
     obtain⟨p,hp,rfl⟩:=hq
     obtain⟨k3,k4⟩:=g1 p hp
     have k5:(e.ev p.2).ug.flat.length=sz:=by
      unfold partOk at k3
      split at k3
      · rename_i l hl; rw[hl]; exact k3.1
      · rename_i x hx
        unfold SV.flat; split
        · rename_i l hl; exact absurd hl (hx l)
        · simp[k3.1]
     rw[length_zeros,h5,k5]; exact k4
    refine eff_fill (rest:=[]) (cap:=len') hS g4 hvf g2 (Nat.le_refl _) (by have:=hvf.1; simp; omega) ?_ g3
    simp only[execOp,hop,Instr.buildSlice,Sem.run_bind,run_underlying hu,Result.andThen_ok,run_sizeOf' h2]
    rw[if_neg (by omega)]
    have hzz:(Array.range (len'*sz)).map (fun x=>zv.cells[x % zv.cells.size]!)=(List.replicate len' zv.cells.toList).flatten.toArray:=by
     have:=made_eq (z:=zv.cells.toList) len'
     rw[hzl]at this
     rw[←this]; simp[madeCells]
    have e1:(ps.map fun x=>(x.1,a.eval x.2)).toList=ps.toList.map fun p=>(p.1,a.eval p.2):=by simp
    by_cases h0:len'*sz=0
    · have hz0:(List.replicate len' zv.cells.toList).flatten=[]:=by
       apply List.eq_nil_of_length_eq_zero; rw[length_zeros,hzl]; exact h0
      rw[hz0]at hf
      simp only[h0,if_true,Sem.run_pure,Array.range_zero',Array.map_empty,e1,hf]
      simp[newRow]
    · simp only[h0,if_false,Sem.run_bind,hrun,Result.andThen_ok,Sem.run_pure,hzz,e1,hf]
      simp[newRow]
  · cases hc
 | aps T s x =>
  simp only[chkE]at hc
  split at hc
  · rename_i as ts
    split at hc
    · rename_i s' x' t t' ha ht
      simp only[Bool.and_eq_true]at hc
      obtain⟨⟨⟨⟨h1,h2⟩,h3⟩,h4⟩,h5⟩:=hc
      split at h5
      · rename_i ht2
        obtain⟨g1,g2,g3,g8⟩:=hs
        have ha':as = #[s',x']:=by rw[←ha]
        have ht':ts = #[t,t']:=by rw[←ht]
        subst ha' ht'
        have hx1:=(chkOd_spec h2 he).isS g2
        have hs0:=(chkOd_spec h1 he).ug g1
        have hsrc:∀ w,Src P 1 t' (.string (e.ev x).str) (e.ev x).str.size (byteCells (e.ev x).str) w:=fun w=>Src.ofString w ht2 _
        have hx3:∀ S:St,VRs S (sbyts (e.ev x).str) (byteCells (e.ev x).str):=fun S=>by
         refine⟨by simp[sbyts,byteCells],fun j a b h6 h7 => ?_⟩
         simp only[sbyts,byteCells,List.getElem?_map,Option.map_eq_some_iff]at h6 h7
         obtain⟨c,h6,rfl⟩:=h6
         obtain⟨d,h7,rfl⟩:=h7
         rw[h6]at h7; cases h7
         exact .val _
        have g5:cellsOk (sbyts (e.ev x).str):=by
         intro c hc
         simp only[sbyts,List.mem_map]at hc
         obtain⟨b,_,rfl⟩:=hc
         rfl
        split at g8
        · rename_i i0 n sz' ver hown
          rw[hown]at g3 hs0
          simp only[SV.slen]at g3
          obtain⟨rfl,⟨ob,ho,hl,hver,hty,hlen⟩,hK⟩:=g8
          rw[setObj_some ho]at hK
          obtain⟨ads,cap,hsv,hcap,hz,hat⟩:=hs0.own_inv ho hver
          obtain⟨v',S',hr,hext,hsim,hvr,hH⟩:=append_src (ty:=o.type) hS (slTB_spec h3) h4 ho hl hver hty hlen hcap hz hat (hsrc _) (hx3 S) g5 (by omega) g3
          refine⟨v',S',_,.inl ?_,hext,hsim,hvr,?_⟩
          · have h9:(execOp a.eval o).run P S.w=((Builtin.append_ #[t,t'] o.type #[.slice ads n cap,.string (e.ev x).str]).run P S.w).andThen fun v w'=>.ok (.value v) w':=by
             simp[execOp,hop,resolve,invoke,builtin,hsv,hx1]
            rw[h9,hr]; rfl
          · rw[hH]; exact hK
        · obtain⟨hnil,hK⟩:=g8
          have hsv:=hs0.isNil hnil
          have hn0:(e.ev s).ug.slen=0:=by
           generalize (e.ev s).ug=w at hnil
           cases w<;>simp[SV.isNil]at hnil<;>rfl
          rw[hn0]at g3
          have hap:=append_src (ty:=o.type) (i0:=S.H.length) (n:=0) (ver:=0) (ob:=⟨[],T,0,true⟩) (ads:=none) (cap:=0) (sim_newNil hS T) (slTB_spec h3) h4 (by simp[St.newNil]) rfl rfl rfl (by simp) (Nat.le_refl _) (fun _=>rfl)
           (by simp[St.OwnAt,St.newNil,upd_same]) (hsrc _) (hx3 _) g5 (by omega) g3
          obtain⟨v',S',hr,hext,hsim,hvr,hH⟩:=hap
          have hl0:S.H.length≤(S.newNil T).H.length:=by simp[St.newNil]
          refine⟨v',S',_,.inl ?_,(ext_newNil S T).trans (hext.mono hl0),hsim,hvr,?_⟩
          · have h9:(execOp a.eval o).run P S.w=((Builtin.append_ #[t,t'] o.type #[.slice none 0 0,.string (e.ev x).str]).run P S.w).andThen fun v w'=>.ok (.value v) w':=by
             simp[execOp,hop,resolve,invoke,builtin,hsv,hx1]
            have hr':(Builtin.append_ #[t,t'] o.type #[.slice none 0 0,.string (e.ev x).str]).run P S.w=.ok v' S'.w:=hr
            rw[h9,hr']; rfl
          · rw[hH]
            have:(S.newNil T).H.set S.H.length ((⟨[],T,0,true⟩:AO).grow (sbyts (e.ev x).str))=S.H++[⟨sbyts (e.ev x).str,T,1,true⟩]:=by
             simp[St.newNil,AO.grow]
            rw[this,Nat.zero_add]; exact hK
      · cases h5
    · cases hc
  · cases hc
 | sby x =>
  obtain⟨g1,g2⟩:=hs
  simp only[chkE]at hc
  split at hc
  · rename_i src dst x'
    rw[Bool.and_eq_true,Bool.and_eq_true]at hc
    obtain⟨⟨h1,h2⟩,h3⟩:=hc
    split at h2
    · rename_i hu
      split at h3
      · rename_i el hd
        split at h3
        · rename_i hel
          have hv:=(chkOd_spec h1 he).isS g1
          have hrun:=run_bytes_of_string (P:=P) S.w src dst el (e.ev x).str hu hd hel
          obtain⟨he1,hs1,hv1⟩:=blk_bytes hS (e.ev x).str (grownCap S.w (e.ev x).str.size 0 el) el ((bytesRow (e.ev x).str (grownCap S.w (e.ev x).str.size 0 el)).size,(bytesRow (e.ev x).str (grownCap S.w (e.ev x).str.size 0 el)).size+1) (grownCap_ge _ _ _ _)
          refine⟨_,⟨S.ρ,S.H,_⟩,_,.inl ?_,he1,hs1,hv1,g2⟩
          simp[execOp,hop,hv,hrun]
        · cases h3
      · cases h3
    · cases h2
  · cases hc
 | snil neg right x =>
  obtain⟨g1,g2,g3,g4⟩:=hs
  simp only[chkE]at hc
  split at hc
  · rename_i op2 t x' y' yt
    rw[Bool.and_eq_true,Bool.and_eq_true,Bool.and_eq_true]at hc
    obtain⟨⟨⟨h1,h2⟩,h3⟩,h4⟩:=hc
    split at h4
    · rename_i el hu
      have main:∀ (ad:Option Addr) (n cap:Nat),(a.eval (if right then x' else y'))=.slice ad n cap →
       (execOp a.eval o).run P S.w=.ok (.value (.bool (if neg then !ad.isNone else ad.isNone))) S.w:=by
       intro ad n cap hv
       have r1:=run_equal_slice_nil (P:=P) S.w t el ad n cap hu
       have r2:(Op.equal t (.slice none 0 0) (.slice ad n cap)).run P S.w=.ok ad.isNone S.w:=run_eq_nil_sl 9999 hu ad n cap S.w
       cases right with
       | true =>
        simp only[if_true]at h3 hv
        split at h3
        · cases neg with
          | true=>simp at h1; subst h1; simp[execOp,hop,hv,eval_const,eqGuard,binOp,r1]
          | false=>simp at h1; subst h1; simp[execOp,hop,hv,eval_const,eqGuard,binOp,r1]
        · cases h3
       | false =>
        simp only[Bool.false_eq_true,if_false]at h3 hv
        split at h3
        · cases neg with
          | true=>simp at h1; subst h1; simp[execOp,hop,hv,eval_const,eqGuard,binOp,r2]
          | false=>simp at h1; subst h1; simp[execOp,hop,hv,eval_const,eqGuard,binOp,r2]
        · cases h3
      have hx:=(chkOd_spec h2 he).ug g1
      obtain⟨ad,cap,hv⟩:=hx.slen_spec g2
      have hrun:=main ad _ cap hv
      rw[hv]at hx
      cases ad with
      | none =>
       have h0:(e.ev x).ug.slen=0:=by
        obtain⟨nn,hnn⟩:∃ nn,nn=(e.ev x).ug.slen:=⟨_,rfl⟩
        rw[←hnn]at hx ⊢
        exact hx.nil_len hnn
       have g5:=(g4 h0).2
       refine⟨_,S,_,.inl hrun,Ext.refl _ S,hS,.val _,?_⟩
       cases neg<;>simpa[bl]using g5
      | some ad =>
       have g5:K (bl neg) S.H:=by
        by_cases h0:(e.ev x).ug.slen=0
        · exact(g4 h0).1
        · exact g3 h0
       refine⟨_,S,_,.inl hrun,Ext.refl _ S,hS,.val _,?_⟩
       cases neg<;>simpa[bl]using g5
    · cases h4
  · cases hc
 | cpy sz d s =>
  simp only[chkE]at hc
  split at hc
  · rename_i as ts
    split at hc
    · rename_i d' s' t t' ha ht
      simp only[Bool.and_eq_true,beq_iff_eq]at hc
      obtain⟨⟨⟨⟨rfl,h1⟩,h2⟩,rfl⟩,h3⟩:=hc
      obtain⟨g1,g2,g3,g4,g5,g6⟩:=hs
      have ha':as = #[d',s']:=by rw[←ha]
      have ht':ts = #[t,t]:=by rw[←ht]
      subst ha' ht'
      obtain⟨adx,capx,news,hx1,hx2,hx3,hx4,hx5⟩:=VR.els hS ((chkOd_spec h2 he).ug g2) g3 g4
      have hs0:=(chkOd_spec h1 he).ug g1
      split at h3
      · rename_i el hu
        split at h3
        · rename_i inf hi
          rw[beq_iff_eq]at h3
          split at g6
          · rename_i i0 off n sz' ver hown
            rw[hown]at hs0
            obtain⟨p0,pn,pl,hK⟩:=g6
            have hk0:off<(objCells S.H i0 ver).length:=by omega
            obtain⟨ob,b,us0,rest,u,ho,hl,hver,hρ,hh,hvr,_⟩:=hS.read (List.getElem?_eq_getElem hk0)
            have hob:objCells S.H i0 ver=ob.cells:=by rw[←hver]; exact objCells_of ho hl
            rw[hob]at pl
            rw[setObj_some ho]at hK
            obtain⟨ads,cap,hsv,hcap,hz,hat⟩:=hs0.own_inv ho hver
            unfold St.OwnAt at hat
            rw[hρ]at hat
            have hads:ads=some ⟨b,off,none⟩:=by
             rcases hat with h | h
             · omega
             · exact h.1
            subst hads
            have hus0:us0.length=ob.cells.length:=hvr.1
            have hnl:news.length=n:=by rw[hx2,pn,Nat.mul_one]
            have hst:=run_storeCells_at P b off ob.ty news 0 (us0++rest).toArray S.w hh (by simp; omega) (hx3.oneCells g5)
            simp only[Nat.add_zero]at hst
            rw[setRow_eq S.w b _ _ ob.ty (0,0) hh]at hst
            have hcells:((us0++rest).toArray.toList.take off++news++(us0++rest).toArray.toList.drop (off+news.length))=(us0.take off++news++us0.drop (off+news.length))++rest:=by
             have e1:off≤us0.length:=by omega
             have e2:off+news.length≤us0.length:=by omega
             simp[List.take_append_of_le_length e1,List.drop_append_of_le_length e2]
            rw[hcells]at hst
            obtain⟨w1,hw1⟩:∃ w1:World,w1={ S.w with heap:=S.w.heap.setIfInBounds b (Obj.cells ((us0.take off++news++us0.drop (off+news.length))++rest).toArray ob.ty (0,0)) }:=⟨_,rfl⟩
            rw[←hw1]at hst
            have hel:((e.ev s).ug.els S.H 1).length=news.length:=hx3.1.symm
            have hv':VRs S (ob.cells.take off++(e.ev s).ug.els S.H 1++ob.cells.drop (off+((e.ev s).ug.els S.H 1).length)) (us0.take off++news++us0.drop (off+news.length)):=by
             rw[hel]
             exact((hvr.take _).append hx3).append (hvr.drop _)
            have hput:ob.put off ((e.ev s).ug.els S.H 1)=⟨ob.cells.take off++(e.ev s).ug.els S.H 1++ob.cells.drop (off+((e.ev s).ug.els S.H 1).length),ob.ty,ob.ver,true⟩:=by
             cases ob; simp[AO.put]at *; exact hl
            rw[hput]at hK
            obtain⟨hs1,hs2⟩:=sim_put hS (cells:=ob.cells.take off++(e.ev s).ug.els S.H 1++ob.cells.drop (off+((e.ev s).ug.els S.H 1).length)) (ver:=ob.ver) ho hl hρ (Nat.le_refl _)
             (us:=us0.take off++news++us0.drop (off+news.length)) (rest:=rest) hh (by simp; omega) hv' (by
              intro s hs
              simp only[List.mem_append]at hs
              rcases hs with (hs | hs) | hs
              · exact hS.belL ho hl s (List.mem_of_mem_take hs)
              · exact hx3.unders g5 s hs
              · exact hS.belL ho hl s (List.mem_of_mem_drop hs)) (w':=w1) hw1
            have hsrc:=src_slice (w:=S.w) (capx:=capx) hu hx2 hx4 hx5 (hx3.oneCells g5)
            have hmin:Nat.min (e.ev s).ug.slen n=n:=by rw[pn]; exact Nat.min_self _
            have hlen:=hsrc.len
            have hce:=hsrc.cells
            rw[←pn]at hx1 hce
            refine⟨goInt n,_,_,.inl ?_,hs2,hs1,.val _,hK⟩
            have h9:(execOp a.eval o).run P S.w=((Builtin.copy_ #[t,t] o.type #[.slice (some ⟨b,off,none⟩) n cap,.slice adx n capx]).run P S.w).andThen fun v w'=>.ok (.value v) w':=by
             simp[execOp,hop,resolve,invoke,builtin,hsv,hx1]
            have hr:(Builtin.copy_ #[t,t] o.type #[.slice (some ⟨b,off,none⟩) n cap,.slice adx n capx]).run P S.w=.ok (goInt n) w1:=by
             simp[Builtin.copy_,run_underlying hu,Builtin.lenOf,sizeOf,typeInfo,hi,h3,hce,hst,Nat.min_self]
            rw[h9,hr]; rfl
          · exact g6.elim
        · cases h3
      · cases h3
    · cases hc
  · cases hc
 | call f args=>cases hcall
 | pan x=>cases hcall
 | calln f args=>cases hcall
 | mkm T =>
  simp only[chkE]at hc
  have hrun:(execOp a.eval o).run P S.w=.ok (.value (.map (some S.w.heap.size))) (S.w.alloc (.map #[] 0)):=by
   split at hc
   · simp[execOp,hop,Instr.makeMap,Result.andThen]
   · rename_i T' k n
     rw[Bool.and_eq_true,beq_iff_eq]at hc
     obtain⟨rfl,h2⟩:=hc
     split at h2
     · rename_i kt et hu
       simp[execOp,hop,Instr.makeMap,run_underlying hu,asInt,asIntOf,Result.andThen,eval_const]
     · cases h2
   · cases hc
  refine⟨.map (some S.w.heap.size),S.newSp (.map #[] 0) ⟨[.mk []],T,0,false⟩,.mp S.H.length 0,.inl ?_,ext_newSp _ _,sim_newSp hS (m:=.mk []) (us:=[]) ⟨rfl,rfl⟩ (VRs.nil S),?_,hs⟩
  · rw[hrun]; rfl
  · exact .mp _ _ _ _ (by simp[St.newSp]; rfl) (Nat.le_refl _) fun _=>by simp only[St.newSp,upd_same]
 | mup kk m' k' v' =>
  simp only[chkE]at hc
  have hop2:∃ t m k v,(op=.mapUpdate t m k v∨op=.insert t m k v)∧chkOd m m'=true∧chkOd k k'=true∧chkOd v v'=true∧mapKB P t kk=true:=by
   split at hc
   · rename_i t m k v
     simp only[Bool.and_eq_true]at hc
     exact⟨t,m,k,v,.inl rfl,hc.1.1.1,hc.1.1.2,hc.1.2,hc.2⟩
   · rename_i t m k v
     simp only[Bool.and_eq_true]at hc
     exact⟨t,m,k,v,.inr rfl,hc.1.1.1,hc.1.1.2,hc.1.2,hc.2⟩
   · cases hc
  obtain⟨t,m,k,v,hopv,h1,h2,h3,h4⟩:=hop2
  obtain⟨kt,et,hu,hk,hzz⟩:=mapKB_spec h4
  obtain⟨g1,g2,g3,g4⟩:=hs
  have k1:=(chkOd_spec h1 he).ug g1
  obtain⟨k2,k3⟩:=(chkOd_spec h2 he).isK g2
  have k4:=(chkOd_spec h3 he).ug g3
  split at g4
  · rename_i i ver x hmp hmo
    obtain⟨g5,g7,g6⟩:=g4
    rw[hmp]at k1 hmo
    generalize hmv:a.eval m=mv at k1
    cases k1 with
    | mp _ _ l o' ho hv hat =>
    simp only[SV.mapOf,ho]at hmo
    split at hmo
    · rename_i hcond
      split at hmo
      · rename_i ks vs hcells
        cases hmo
        have hoe:o'=⟨.mk ks::vs,o'.ty,o'.ver,false⟩:=by
         obtain⟨c,ty,vv,lv⟩:=o'
         simp only at hcells hcond ⊢
         rw[hcells,hcond.1]
        have ho2:S.H[i]? = some ⟨.mk ks::vs,o'.ty,o'.ver,false⟩:=by rw[ho]; congr 1
        obtain⟨l',es,cl,q1,q2,q3,q4⟩:=hS.map ho2
        rw[hat hcond.2]at q1; cases q1
        have hρ:=hat hcond.2
        subst q3
        have hck:=check_all (P:=P) (w:=S.w) hk hzz k3 false
        rw[←k2]at g7
        have key:∃ x',(Instr.mapUpdate t (.map (some l)) (a.eval k) (a.eval v)).run P S.w=.ok () (S.w.putObj l x')∧(∃ es2 cl2,x'=Obj.map es2 cl2) ∧
         ∃ us,SpR (.mk (msetK (a.eval k) (es.toList.map (·.key)))) x' us∧VRs S (msetV (a.eval k) (e.ev v').ug (es.toList.map (·.key)) vs) us:=by
         rcases mset_all hk hzz hS k3 k4 g5 g7 q4 with ⟨r1,r2,r3⟩ | ⟨j,en,r1,r2,r3,r4,r5⟩
         · refine⟨.map (es.push ⟨a.eval k,a.eval v,cl⟩) (cl+1),?_,⟨_,_,rfl⟩,_,⟨?_,rfl⟩,?_⟩
           · have hfk:=r1
             simp[Instr.mapUpdate,run_underlying hu,Go.MapKept.run_getObj_map q2,hck,hfk,Go.MapKept.run_setObj_map _ q2,Result.andThen,World.putObj]
           · rw[r2]; simp
           · simpa using r3
         · have hfk:=r1
           have hj:es[j]? = some en:=by simpa using r2
           have hjl:j<es.size:=(Array.getElem?_eq_some_iff.1 hj).1
           refine⟨.map (es.modify j fun e=>{ e with key:=a.eval k,val:=a.eval v }) cl,?_,⟨_,_,rfl⟩,_,⟨?_,rfl⟩,?_⟩
           · have hks:=stays_all (P:=P) (w:=S.w) k3
             simp[Instr.mapUpdate,run_underlying hu,Go.MapKept.run_getObj_map q2,hck,hfk,hj,r3,hks,Go.MapKept.run_setObj_map _ q2,Result.andThen,World.putObj]
           · rw[r4]
             apply List.ext_getElem?
             intro n
             simp only[List.getElem?_map,Array.getElem?_toList,Array.getElem?_modify]
             by_cases hn:j=n
             · subst hn; rw[if_pos rfl,hj]; simp[r3]
             · rw[if_neg hn]
           · have e1:(es.modify j fun e=>{ e with key:=a.eval k,val:=a.eval v }).toList.map (·.val)=(es.toList.map (·.val)).set j (a.eval v):=by
              apply List.ext_getElem?
              intro n
              simp only[List.getElem?_map,Array.getElem?_toList,Array.getElem?_modify,List.getElem?_set]
              by_cases hn:j=n
              · subst hn; simp[hjl]
              · rw[if_neg hn,if_neg hn]
             rw[e1]; exact r5
        obtain⟨x',hrun,hx',us,hsp,hvs⟩:=key
        have hne:(⟨.mk (es.toList.map (·.key))::vs,o'.ty,o'.ver,false⟩:AO).cells≠[]:=by simp
        obtain⟨he1,he2⟩:=turn_sp hS ho2 rfl hne hρ q2 (.inr ⟨es,cl,rfl⟩) (fun r h=>by cases h) (o':=⟨.mk (msetK (a.eval k) (es.toList.map (·.key)))::msetV (a.eval k) (e.ev v').ug (es.toList.map (·.key)) vs,o'.ty,o'.ver,false⟩) rfl (Nat.le_refl _)
         (.inr ⟨_,us,_,rfl,hsp,hvs⟩)
        refine⟨undef,_,.val undef,.inr ⟨?_,rfl⟩,he1,he2,.val _,?_⟩
        · rcases hopv with rfl | rfl<;>simp[execOp,hop,hmv,hrun]
        · rw[setObj_some ho]at g6
          rw[←k2]at g6
          have e3:({ o' with cells:=.mk (msetK (a.eval k) (es.toList.map (·.key)))::msetV (a.eval k) (e.ev v').ug (es.toList.map (·.key)) vs }:AO)=⟨.mk (msetK (a.eval k) (es.toList.map (·.key)))::msetV (a.eval k) (e.ev v').ug (es.toList.map (·.key)) vs,o'.ty,o'.ver,false⟩:=by
           rw[hoe]
          rw[e3]at g6
          exact g6
      · cases hmo
    · cases hmo
  · exact g4.elim
end
end Go.Ab
namespace Go.Ab
def Fr (ro:Option Nat):Fence:={ fn:=fun _=>True,depth:=none,alive:=false,round:=ro }
theorem fr_room (ro:Option Nat) (n:Nat):(Fr ro).room n:=fun _ h=>by simp[Fr]at h
theorem fr_one {ro:Option Nat} {n:Nat}:(Fr ro).depth.isSome=true->1≤n:=fun h=>by simp[Fr]at h
def _root_.Go.Code.wq (ro:Option Nat) (P:Program) (c:Code) (Q:Exit->Act->World->Prop) (a:Act) (w:World):Prop:=c.wpIn (Fr ro) 0 P Q a w
def _root_.Go.Oper.wq (P:Program) (o:Oper) (a:Act) (w:World) (next:Act->World->Prop) (Q:Exit->Act->World->Prop):Prop :=
 o.uponIn (Fr none) 0 P a next Q ((execOp a.eval o).run P w)
def wpOp (P:Program) (ops:Array Oper) (Q:Exit->Act->World->Prop) (i:Nat) (K:Act->World->Prop) (a:Act) (w:World):Prop :=
 match ops[i]? with
 | none=>K a w
 | some o=>if Region.wanted o (yielded ops a.tmps)then o.wq P a w K Q else K (a.put o.dst undef) w
def wpOps (P:Program) (ops:Array Oper) (Q:Exit->Act->World->Prop):List Nat->Act->World->Prop
 | [],a,w=>Q .normal a w
 | i::rest,a,w=>wpOp P ops Q i (wpOps P ops Q rest) a w
def wpList (P:Program) (ops:Array Oper) (Q:Exit->Act->World->Prop):List Oper->Act->World->Prop
 | [],a,w=>Q .normal a w
 | o::rest,a,w=>if Region.wanted o (yielded ops a.tmps)then o.wq P a w (wpList P ops Q rest) Q else wpList P ops Q rest (a.put o.dst undef) w
def wpAny (P:Program) (md:Region.Mode) (ops:Array Oper) (Q:Exit->Act->World->Prop):Nat->Array Bool->Act->World->Prop
 | 0,listed,a,w=>Region.ready md ops listed=[]∧Q .normal a w
 | fuel+1,listed,a,w =>
  (Region.ready md ops listed=[]->Q .normal a w) ∧
  ∀ i∈Region.ready md ops listed,wpOp P ops Q i (wpAny P md ops Q fuel (listed.setIfInBounds i true)) a w
section
variable {P:Program} {ops:Array Oper} {Q:Exit->Act->World->Prop} {md:Region.Mode}
theorem _root_.Go.Oper.wq_mono {o:Oper} {a:Act} {w:World} {K K':Act->World->Prop} {Q Q':Exit->Act->World->Prop} (h:∀ a w,K a w->K' a w) (hq:∀ e a w,e≠.normal->Q e a w->Q' e a w)
 (hh:o.wq P a w K Q):o.wq P a w K' Q':=by
 unfold Oper.wq at *
 generalize (execOp a.eval o).run P w=r at *
 cases r with
 | ok n w' =>
  cases n<;>simp only[Oper.uponIn]at hh ⊢ <;>
   first
    | exact h _ _ hh
    | exact⟨hh.1,CallsIn.mono hh.2 (fun e w'' he=>by cases e<;>first | exact h _ _ he | exact hq _ _ _ (by simp) he | exact(let ⟨a,w,hx⟩:=he; ⟨a,w,hq _ _ _ (by simp) hx⟩))⟩
    | exact⟨hh.1,RoundIn.mono hh.2 (fun e w'' he=>by cases e<;>first | exact h _ _ he | exact hq _ _ _ (by simp) he | exact(let ⟨a,w,hx⟩:=he; ⟨a,w,hq _ _ _ (by simp) hx⟩))⟩
    | exact⟨hh.1,fun c cs hr=>let ⟨v,w',h1,h2⟩:=hh.2 c cs hr; ⟨v,w',h _ _ h1,h2⟩⟩
 | halt x w'=>cases x<;>simp only[Oper.uponIn]at hh ⊢ <;> exact hq _ _ _ (by simp) hh
theorem wpOp_mono {i:Nat} {a:Act} {w:World} {K K':Act->World->Prop} (h:∀ a w,K a w->K' a w) (hh:wpOp P ops Q i K a w):wpOp P ops Q i K' a w:=by
 unfold wpOp at *
 split
 · exact h _ _ (by simpa[*]using hh)
 · rename_i o ho
   simp only[ho]at hh
   split
   · rename_i hw; simp only[hw,if_true]at hh; exact Oper.wq_mono h (fun _ _ _ _ h=>h) hh
   · rename_i hw; simp only[hw]at hh; exact h _ _ hh
theorem wpOps_eq_wpList (l:List Oper):∀ k,(∀ j,l[j]? = ops[k+j]?)->wpOps P ops Q (List.range' k l.length)=wpList P ops Q l:=by
 induction l with
 | nil=>intro k _; funext a w; simp[wpOps,wpList]
 | cons o l ih =>
  intro k h
  have h0:ops[k]? = some o:=by simpa using (h 0).symm
  have ih':=ih (k+1) (fun j=>by have:=h (j+1); simpa[Nat.add_assoc,Nat.add_comm 1 j]using this)
  funext a w
  simp only[List.length_cons,List.range'_succ,wpOps,wpOp,h0,wpList,ih']
theorem linearise_acc (md:Region.Mode) (ops:Array Oper) (fuel t:Nat) (listed:Array Bool) (acc:List Nat) :
 Region.linearise.go md ops fuel t listed acc=acc.reverse++Region.linearise.go md ops fuel t listed []:=linearise_go_acc md ops fuel t listed acc
theorem wpAny_sound:∀ (fuel t:Nat) (listed:Array Bool) (a:Act) (w:World),wpAny P md ops Q fuel listed a w →
 wpOps P ops Q (Region.linearise.go md ops fuel t listed []) a w:=by
 intro fuel
 induction fuel with
 | zero=>intro t listed a w h; simpa[Region.linearise.go,wpOps]using h.2
 | succ fuel ih =>
  intro t listed a w h
  obtain⟨h₀,h₁⟩:=h
  simp only[Region.linearise.go]
  change wpOps P ops Q (match (Region.ready md ops listed)[t % (Region.ready md ops listed).length]? with
   | some i=>Region.linearise.go md ops fuel (t / (Region.ready md ops listed).length) (listed.setIfInBounds i true) [i]
   | none=>[].reverse) a w
  cases hi:(Region.ready md ops listed)[t % (Region.ready md ops listed).length]? with
  | none =>
   have hnil:Region.ready md ops listed=[]:=by
    cases hr:Region.ready md ops listed with
    | nil=>rfl
    | cons x xs =>
     rw[hr]at hi
     have hlt:t % (x::xs).length<(x::xs).length:=Nat.mod_lt _ (by simp)
     simp at hi
     simp at hlt
     omega
   simpa[wpOps]using h₀ hnil
  | some i =>
   simp only[]
   rw[linearise_acc,List.reverse_singleton,List.singleton_append]
   exact wpOp_mono (fun a w=>ih _ _ a w) (h₁ i (List.mem_of_getElem? hi))
def ndB (ops:Array Oper):Bool:=ops.all fun o=>match o.op with | .defer _=>false | _=>true
theorem nd_spec (h:ndB ops=true) {i:Nat} {o:Oper} (ho:ops[i]? = some o):∀ c,o.op≠.defer c:=by
 intro c hc
 unfold ndB at h
 rw[Array.all_eq_true]at h
 obtain⟨hlt,rfl⟩:=Array.getElem?_eq_some_iff.1 ho
 have:=h i hlt
 rw[hc]at this; cases this
theorem upon_fr {ro:Option Nat} {o:Oper} {a:Act} {next:Act->World->Prop} {r:Result Next} (h:o.uponIn (Fr none) 0 P a next Q r):o.uponIn (Fr ro) 0 P a next Q r:=by
 cases r with
 | ok n w=>cases n<;>exact h
 | halt x w=>cases x<;>exact h
theorem opsIn_of (hn:ndB ops=true) (ro:Option Nat):∀ (l:List Nat) (a:Act) (w:World),wpOps P ops Q l a w->wpOpsIn (Fr ro) 0 P ops Q l a w:=by
 intro l
 induction l with
 | nil=>exact fun a w h=>h
 | cons i r ih =>
  intro a w h
  have h':wpOp P ops Q i (wpOpsIn (Fr ro) 0 P ops Q r) a w:=wpOp_mono ih h
  unfold wpOp at h'
  simp only[wpOpsIn]
  cases ho:ops[i]? with
  | none=>rw[ho]at h'; exact h'
  | some o =>
   rw[ho]at h'
   simp only at h' ⊢
   split
   · rename_i hw
     rw[if_pos hw]at h'
     refine⟨fun _ _=>trivial,?_⟩
     rw[Oper.semAt_eq _ _ _ (nd_spec hn ho)]
     exact upon_fr h'
   · rename_i hw
     rw[if_neg hw]at h'
     exact⟨fun _ _=>trivial,h'⟩
variable {a:Act} {w:World} {ro:Option Nat}
theorem wp_region_list {id:Nat} (hn:ndB ops=true) (h:wpList P ops Q ops.toList a w):(Code.region id ops false).wq ro P Q a w :=
 wpIn_region (opsIn_of hn ro _ a w (by rw[List.range_eq_range',<- Array.length_toList,wpOps_eq_wpList ops.toList 0 (by simp)]; exact h))
theorem wp_region_any {id:Nat} (hn:ndB ops=true) (hm:P.follows .mixedOrders=true)
 (h:wpAny P .any ops Q ops.size (Array.replicate ops.size false) a { w with drawn:=w.drawn+1 }):(Code.region id ops true).wq ro P Q a w :=
 wpIn_region_draw fun t=>by
  simp only[Region.schedule,hm,Bool.true_or,if_true]
  exact opsIn_of hn ro _ a _ (wpAny_sound ops.size t _ a _ h)
theorem wpList_step {o:Oper} {rest:List Oper}
 (h:∀ K:Act->World->Prop,(∀ a w,wpList P ops Q rest a w->K a w) →
  if Region.wanted o (yielded ops a.tmps)then o.wq P a w K Q else K (a.put o.dst undef) w):wpList P ops Q (o::rest) a w:=h _ fun _ _ h=>h
theorem wq_mono {c:Code} {Q':Exit->Act->World->Prop} (h:c.wq ro P Q a w) (hq:∀ e a w,Q e a w->Q' e a w):c.wq ro P Q' a w:=wpIn_mono h hq
end
section
variable {P:Program} {b:Frame} {a:Act} {k:List Item} {cs:List Frame} {w:World} {F:Fence} {n:Nat} {Q:Exit->Act->World->Prop}
theorem stepR_scope {c:Code}:step P (lone (b.atR a (.code (.scope c)::k)) cs w)=.next (lone (b.atR a (.code c::.inScope c::k)) cs w) :=
 step_lone_go (by simp[stepG,stepG.exec,Frame.atR])
theorem stepR_inScope {c:Code}:step P (lone (b.atR a (.inScope c::k)) cs w)=.next (lone (b.atR a k) cs w) :=
 step_lone_go (by simp[stepG,stepG.exec,Frame.atR])
theorem wpIn_scope {c:Code} (h:c.wpIn F n P (fun e a w=>(match e with | .goto _=>False | _=>True)∧Q e a w) a w):(Code.scope c).wpIn F n P Q a w:=by
 intro b k cs hro hb hr
 have h0:(lone (b.atR a (.code (.scope c)::k)) cs w).fenced P F:=fenced_calm hb hr rfl
 obtain⟨e,a₁,w₁,⟨hg,hq⟩,harr⟩:=h b (.inScope c::k) cs hro hb hr
 have hx:∀ id,exitTo id (.inScope c::k)=exitTo id k:=fun id=>by simp[exitTo]
 cases e with
 | normal=>exact⟨.normal,a₁,w₁,hq,.head h0 stepR_scope (StepsIn.trans harr (.one (fenced_calm hb hr rfl) stepR_inScope))⟩
 | exit id=>exact⟨.exit id,a₁,w₁,hq,fun k' hk=>.head h0 stepR_scope (harr.1 k' (by rw[hx]; exact hk)),
  fun hr' hk=>let ⟨k₁,h1,h2⟩:=harr.2 hr' (by rw[hx]; exact hk); ⟨k₁,h1,.head h0 stepR_scope h2⟩⟩
 | goto l=>exact hg.elim
 | ret=>exact⟨_,a₁,w₁,hq,.of_steps (.one h0 stepR_scope) harr⟩
 | panic ch=>exact⟨_,a₁,w₁,hq,.of_steps (.one h0 stepR_scope) harr⟩
 | outgrown=>exact⟨_,a₁,w₁,hq,.of_steps (.one h0 stepR_scope) harr⟩
end
structure DB where
 n0:Nat
 base:List Deferred
 ro:Option Nat
def mark (D:Nat):Deferred:={ target:=.collected D,args := #[] }
structure DB.Ok (d:DB) (w:World) (ds:List Deferred):Prop where
 le:d.n0≤w.heap.size
 ms:∃ ms:List Nat,ds=ms.map mark++d.base∧ms.Nodup∧∀ D∈ms,d.n0≤D∧w.heap[D]? = some (.deferred (some []))
 ro:∀ l,d.ro=some l->∃ r,w.heap[l]? = some (.loop r)
theorem DB.Ok.drew {d:DB} {w:World} {ds:List Deferred} (h:d.Ok w ds):d.Ok w.drew ds:=⟨h.le,h.ms,h.ro⟩
end Go.Ab
namespace Go.Ab
variable [GlobEnv] [FrEnv] [KnEnv]
inductive J where
 | p (i:I)
 | e (i:E)
 | q (f:Od) (args:List Od)
structure Ins where
 d:Option Nat
 g:Option (Nat×Bool)
 j:J
inductive XE where
 | normal
 | exit (id:Nat)
 | goto (l:Nat)
 | ret
 | panic (x:SV)
inductive Out where
 | ret (r:SV)
 | pan (x:SV)
def Ok (P:Program) (f:FuncId) (args:List SV) (H:List AO) (out:Out) (H':List AO):Prop :=
 (∀ (vs:Array Value) (w:World),(callFunc f vs).run P w=.ok (.enter f vs) w) ∧
 ∀ (S:St) (vs:List Value),S.H=H->Sim S->VRs S args vs →
  Calls P f vs.toArray S.w fun e w'=>∃ (v:Value) (ρ':Nat->Option Nat),Ext S.H.length S ⟨ρ',H',w'⟩∧Sim ⟨ρ',H',w'⟩ ∧
   match out with
   | .ret r=>e=.returned v∧VR ⟨ρ',H',w'⟩ r v
   | .pan x=>e=.panicked [{ v:=v,recovered:=false }]∧VR ⟨ρ',H',w'⟩ x v
def OkP (P:Program) (f:FuncId) (args:List SV) (H:List AO) (Pt:Out->List AO->Prop):Prop :=
 (∀ (vs:Array Value) (w:World),(callFunc f vs).run P w=.ok (.enter f vs) w) ∧
 ∀ (S:St) (vs:List Value),S.H=H->Sim S->VRs S args vs →
  Calls P f vs.toArray S.w fun e w'=>∃ (out:Out) (H':List AO) (v:Value) (ρ':Nat->Option Nat),Pt out H'∧Ext S.H.length S ⟨ρ',H',w'⟩∧Sim ⟨ρ',H',w'⟩ ∧
   match out with
   | .ret r=>e=.returned v∧VR ⟨ρ',H',w'⟩ r v
   | .pan x=>e=.panicked [{ v:=v,recovered:=false }]∧VR ⟨ρ',H',w'⟩ x v
theorem Ok.toP {P:Program} {f:FuncId} {args:List SV} {H:List AO} {out:Out} {H':List AO} (h:Ok P f args H out H'):OkP P f args H fun o h=>o=out∧h=H':=by
 refine⟨h.1,fun S vs h1 h2 h3=>(h.2 S vs h1 h2 h3).mono ?_⟩
 rintro e w ⟨v,ρ',h4,h5,h6⟩
 exact⟨out,H',v,ρ',⟨rfl,rfl⟩,h4,h5,h6⟩
def YlP (P:Program) (i:Nat) (args:List SV) (H:List AO) (Pt:Out->List AO->Prop):Prop :=
 (∃ o,H[i]? = some o∧o.ver=0)∧∀ (S:St) (vs:List Value) (l:Nat),S.H=H->Sim S->VRs S args vs->S.ρ i=some l →
  ∃ r,S.w.heap[l]? = some (Obj.loop r)∧vs.length=r.params.size ∧
   RoundIn (Fr none) 0 P l r.fn ((r.params.zip vs.toArray).foldl (fun tmps (t,a)=>tmps.setIfInBounds t a) r.tmps) r.assign r.body S.w fun e w' =>
    ∃ (out:Out) (H':List AO) (v:Value) (ρ':Nat->Option Nat),Pt out H'∧Ext S.H.length S ⟨ρ',H',w'⟩∧Sim ⟨ρ',H',w'⟩ ∧
     match out with
     | .ret r=>e=.returned v∧VR ⟨ρ',H',w'⟩ r v
     | .pan x=>e=.panicked [{ v:=v,recovered:=false }]∧VR ⟨ρ',H',w'⟩ x v
def OkC (P:Program) (f:SV) (args:List SV) (H:List AO) (out:Out) (H':List AO):Prop :=
 f.vd=true∧match f.ug with
 | .fn (.func k) first cap=>Ok P k (first++args++cap) H out H'
 | _=>False
def OkCP (P:Program) (f:SV) (args:List SV) (H:List AO) (Pt:Out->List AO->Prop):Prop :=
 f.vd=true∧match f.ug with
 | .fn (.func k) first cap=>OkP P k (first++args++cap) H Pt
 | .yl i=>YlP P i args H Pt
 | _=>False
theorem OkC.toP {P:Program} {f:SV} {args:List SV} {H:List AO} {out:Out} {H':List AO} (h:OkC P f args H out H'):OkCP P f args H fun o h=>o=out∧h=H':=by
 refine⟨h.1,?_⟩
 have h2:=h.2
 split at h2
 · rename_i hf
   rw[hf]
   exact h2.toP
 · exact h2.elim
def SV.on (want:Bool):SV->Bool
 | .val (.bool b)=>b==want
 | .gd b x=>b&&x.on want
 | _=>false
def SV.bish:SV->Bool
 | .val (.bool _)=>true
 | .gd _ x=>x.bish
 | _=>false
def xj (P:Program) (o:Ins) (env:Env) (H:List AO) (K:XE->Env->List AO->Prop):Prop :=
 match o.j with
 | .p i=>(pv i env.ev H).1∧K .normal (env.put o.d (pv i env.ev H).2) H
 | .e (.call f args)=>∃ Pt:Out->List AO->Prop,OkCP P (env.ev f) (args.map env.ev) H Pt∧∀ out H',Pt out H' →
  match out with
  | .ret r=>K .normal (env.put o.d r) H'
  | .pan x=>K (.panic x) env H'
 | .e (.calln f args)=>∃ (r:SV) (L:List AO),(∀ H':List AO,H'.length=H.length->OkC P (env.ev f) (args.map env.ev) H' (.ret r) (H'++L))∧K .normal (env.put o.d r) (H++L)
 | .e (.pan x)=>(env.ev x).vd=true∧match (env.ev x).ug with
  | .ifc t y=>K (.panic (.ifc t y)) env H
  | _=>False
 | .e i=>xe i env.ev H fun v H'=>K .normal (env.put o.d v) H'
 | .q f args=>∃ r,OkC P (env.ev f) (args.map env.ev) H (.ret r) H∧K .normal (env.put o.d r) H
def xo (P:Program) (o:Ins) (env:Env) (H:List AO) (K:XE->Env->List AO->Prop):Prop :=
 match o.g with
 | none=>xj P o env H K
 | some (s,want) =>
  (env.get s).bish=true ∧
  match o.j with
  | .p i=>((env.get s).on want=true->(pv i env.ev H).1)∧K .normal (env.put o.d (.gd ((env.get s).on want) (pv i env.ev H).2)) H
  | .q f args=>∃ r,((env.get s).on want=true->OkC P (env.ev f) (args.map env.ev) H (.ret r) H)∧K .normal (env.put o.d (.gd ((env.get s).on want) r)) H
  | .e _=>((env.get s).on want=true->xj P o env H K)∧((env.get s).on want=false->K .normal (env.put o.d (.val undef)) H)
def xops (P:Program):List Ins->Env->List AO->(XE->Env->List AO->Prop)->Prop
 | [],env,H,K=>K .normal env H
 | o::r,env,H,K=>xo P o env H fun x env H =>
  match x with
  | .normal=>xops P r env H K
  | x=>K x env H
def ER (S:St):XE->Exit->Prop
 | .normal,.normal=>True
 | .exit i,.exit j=>i=j
 | .goto i,.goto j=>i=j
 | .ret,.ret=>True
 | .panic x,.panic ch=>∃ v,ch=[{ v:=v,recovered:=false }]∧VR S x v
 | _,_=>False
def Post (S:St) (N:Nat) (d:DB) (K:XE->Env->List AO->Prop):Exit->Act->World->Prop:=fun e a w =>
 ∃ x env ρ H,ER ⟨ρ,H,w⟩ x e∧Ext S.H.length S ⟨ρ,H,w⟩∧Sim ⟨ρ,H,w⟩∧EnvR ⟨ρ,H,w⟩ env a.tmps∧a.tmps.size=N∧d.Ok w a.defers∧K x env H
theorem DB.Ok.ext {d:DB} {S S':St} {n:Nat} {ds:List Deferred} (h:d.Ok S.w ds) (hS:Sim S) (he:Ext n S S'):d.Ok S'.w ds:=by
 refine⟨Nat.le_trans h.le he.size,?_,fun l hl=>let ⟨r,h1⟩:=h.ro l hl; he.loops l r h1⟩
 obtain⟨ms,h1,h2,h3⟩:=h.ms
 refine⟨ms,h1,h2,fun D hD=>⟨(h3 D hD).1,?_⟩⟩
 have h4:=(h3 D hD).2
 refine((he.imm D (lt_heap h4) ?_).1).trans h4
 rintro⟨i,o,ho,hl,hρ⟩
 rcases hS.own ho hl hρ with ⟨c,h5⟩ | ⟨r,h5⟩ | ⟨es,cl,h5⟩<;>(rw[h4]at h5; cases h5)
def partK (sz:Nat) (s:SV):Bool:=match s with | .agg l=>l.length==sz&&l.all SV.isCell | _=>false
def kroB (P:Program) (op:Op) (T:TypeId) (sz len:Nat) (z:List SV) (parts:List (Nat×SV)):Bool :=
 let cells:=fillS (List.replicate len z).flatten (parts.map fun p=>(p.1*sz,p.2))
 chkE P op (.bsl T sz len z (parts.map fun p=>(p.1,Od.c p.2)))&&cells.all SV.isCell&&SV.underL 0 cells&&cells.length==len*sz&&parts.all fun p=>decide (p.1*sz+sz≤len*sz)&&partK sz p.2
def chkJ (P:Program) (op:Op) (j:J):Bool :=
 match j with
 | .p (.kro T sz len z parts)=>kroB P op T sz len z parts
 | .p (.kr1 T len z parts)=>chkE P op (.bsl T 1 len z parts)
 | .p i=>chkI P op i
 | .e i=>chkE P op i
 | .q f args=>chkE P op (.call f args)
def chkIns (P:Program) (N:Nat) (ops:Array Oper) (o:Oper) (o':Ins):Bool :=
 o.dst==o'.d&&(match o.dst with | some d=>decide (d<N) | none=>true) &&
 (match o.guard,o'.g with
  | none,none=>true
  | some (j,want),some (s,want')=>want==want'&&((ops[j]?).bind (·.dst)==some s)
  | _,_=>false)&&chkJ P o.op o'.j
section
variable {P:Program} {S:St} {env:Env} {a:Act} {N:Nat} {d:DB}
def boolOf:Value->Option Bool
 | .bool b=>some b
 | _=>none
theorem on_spec {x:SV} {v:Value} {want:Bool} (h:VR S x v) (hb:x.bish=true):(boolOf v==some want)=x.on want:=by
 induction h with
 | val v=>cases v<;>simp_all [SV.bish,SV.on,boolOf]
 | gd b x v h0 h ih =>
  simp only[SV.bish]at hb
  simp only[SV.on]
  cases b with
  | true=>simpa using ih rfl hb
  | false=>rw[h0 rfl]; simp[undef,boolOf]
 | _=>simp[SV.bish]at hb
theorem yielded_spec {ops:Array Oper} {j s:Nat} (hj:(ops[j]?).bind (·.dst)=some s) (tmps:Array Value) :
 yielded ops tmps j=boolOf (tmps.getD s undef):=by
 unfold yielded
 rw[hj]
 simp only[Option.bind_some,Array.getD_eq_getD_getElem?]
 cases h:tmps[s]? with
 | none=>simp[undef,boolOf]
 | some v=>simp only[Option.getD_some]; cases v<;>rfl
def StepOf (P:Program) (ops:Array Oper) (o:Oper) (a:Act) (w:World) (next:Act->World->Prop) (Q:Exit->Act->World->Prop):Prop :=
 if Region.wanted o (yielded ops a.tmps)then o.wq P a w next Q else next (a.put o.dst undef) w
theorem okCP_wp (hS:Sim S) (he:EnvR S env a.tmps) {o:Oper} {f:Od} {args:List Od} (hc:chkE P o.op (.call f args)=true) {Pt:Out->List AO->Prop}
   (hok:OkCP P (env.ev f) (args.map env.ev) S.H Pt) {next:Act->World->Prop} {Q:Exit->Act->World->Prop}
   (h1:∀ out H' v ρ' w',Pt out H'->Ext S.H.length S ⟨ρ',H',w'⟩->Sim ⟨ρ',H',w'⟩ →
     (match out with
      | .ret r=>VR ⟨ρ',H',w'⟩ r v->next (a.put o.dst v) w'
      | .pan x=>VR ⟨ρ',H',w'⟩ x v->Q (.panic [{ v:=v,recovered:=false }]) a w')):o.wq P a S.w next Q:=by
 generalize hop:o.op=op at hc
 simp only[chkE]at hc
 split at hc
 · rename_i f' as ts
   simp only[Bool.and_eq_true]at hc
   have hf:=chkOd_spec hc.1 he
   have has:=chkOds_spec hc.2 he
   obtain⟨hvd,hok⟩:=hok
   have hf':=hf.ug hvd
   split at hok
   · rename_i k first cap hug
     rw[hug]at hf'
     obtain⟨us,vs,hv,hus,hvs⟩:=hf'.fn_inv
     obtain⟨hent,hcall⟩:=hok
     have hcalls:=hcall S (us++as.toList.map a.eval++vs) rfl hS ((hus.append has).append hvs)
     have hrun:(execOp a.eval o).run P S.w=.ok (.enter k (us++as.toList.map a.eval++vs).toArray) S.w:=by
       have e1:us.toArray++as.map a.eval++vs.toArray=(us++as.toList.map a.eval++vs).toArray:=by apply Array.ext'; simp
       simp only[execOp,hop,resolve,hv,Deferred.ofValue,Sem.run_bind,Sem.run_pure,Result.andThen_ok,invoke]
       rw[e1,hent]
     unfold Oper.wq
     rw[hrun,Oper.uponIn_enter]
     refine⟨fr_one,callsIn_wide.2 (hcalls.mono ?_)⟩
     rintro e w' ⟨out,H',v,ρ',hpt,hext,hsim,hout⟩
     cases out with
     | ret r=>obtain⟨rfl,hvr⟩:=hout; exact h1 _ H' v ρ' w' hpt hext hsim hvr
     | pan x=>obtain⟨rfl,hvr⟩:=hout; exact h1 _ H' v ρ' w' hpt hext hsim hvr
   · rename_i i hug
     rw[hug]at hf'
     obtain⟨⟨o1,ho1,hv1⟩,hok⟩:=hok
     generalize hfv:a.eval f'=fv at hf'
     cases hf' with
     | yl _ l o2 ho2 hρ =>
       rw[ho1]at ho2; cases ho2
       obtain⟨r,hr,hlen,hround⟩:=hok S (as.toList.map a.eval) l rfl hS has (hρ hv1)
       have hrun:(execOp a.eval o).run P S.w=.ok (.round l r.fn ((r.params.zip (as.toList.map a.eval).toArray).foldl (fun tmps (t,a)=>tmps.setIfInBounds t a) r.tmps) r.assign r.body) S.w:=by
         have hy:=run_yield (P:=P) (args:=(as.toList.map a.eval).toArray) hr (by simpa using hlen)
         have e1:as.map a.eval=(as.toList.map a.eval).toArray:=by apply Array.ext'; simp
         simp only[execOp,hop,resolve,hfv,Deferred.ofValue,Sem.run_bind,Sem.run_pure,Result.andThen_ok,invoke]
         simpa[e1]using hy
       unfold Oper.wq
       rw[hrun,Oper.uponIn_round]
       refine⟨fr_one,hround.mono ?_⟩
       rintro e w' ⟨out,H',v,ρ',hpt,hext,hsim,hout⟩
       cases out with
       | ret r=>obtain⟨rfl,hvr⟩:=hout; exact h1 _ H' v ρ' w' hpt hext hsim hvr
       | pan x=>obtain⟨rfl,hvr⟩:=hout; exact h1 _ H' v ρ' w' hpt hext hsim hvr
   · exact hok.elim
 · cases hc
theorem okC_wp (hS:Sim S) (he:EnvR S env a.tmps) {o:Oper} {f:Od} {args:List Od} (hc:chkE P o.op (.call f args)=true) {out:Out} {H':List AO}
   (hok:OkC P (env.ev f) (args.map env.ev) S.H out H') {next:Act->World->Prop} {Q:Exit->Act->World->Prop}
   (h1:∀ v ρ' w',Ext S.H.length S ⟨ρ',H',w'⟩->Sim ⟨ρ',H',w'⟩ →
     (match out with
      | .ret r=>VR ⟨ρ',H',w'⟩ r v->next (a.put o.dst v) w'
      | .pan x=>VR ⟨ρ',H',w'⟩ x v->Q (.panic [{ v:=v,recovered:=false }]) a w')):o.wq P a S.w next Q :=
 okCP_wp hS he hc hok.toP fun o h v ρ' w' hp he hs=>by
   obtain⟨rfl,rfl⟩:=hp
   cases o<;>exact h1 v ρ' w' he hs
theorem put_size (a:Act) (d:Option Nat) (v:Value):(a.put d v).tmps.size=a.tmps.size:=by cases d<;>simp[Act.put]
theorem put_defers (a:Act) (d:Option Nat) (v:Value):(a.put d v).defers=a.defers:=by cases d<;>rfl
theorem thaw {S:St} (hS:Sim S) {H0:List AO} {cells:List SV} {T:TypeId} {len sz:Nat} {v:Value} (hH:S.H=H0++[⟨cells,T,0,true⟩]) (hcl:∀ (i:Nat) (o:AO),H0[i]? = some o->∀ s∈o.cells,s.under H0.length=true)
 (hu:SV.underL H0.length cells=true) (hlen:cells.length=len*sz) (hv:VR S (.own H0.length 0 len sz 0) v) :
 Ext H0.length S ⟨S.ρ,H0,S.w⟩∧Sim ⟨S.ρ,H0,S.w⟩∧VR ⟨S.ρ,H0,S.w⟩ (.slc cells len) v:=by
 have hle:H0.length≤S.H.length:=by rw[hH]; simp
 have ht:S.H.take H0.length=H0:=by rw[hH]; simp
 have h1:=ext_drop (S:=S) hle
 have h2:=sim_drop hS hle (fun i o hi ho=>hcl i o (by rw[hH,List.getElem?_append_left hi]at ho; exact ho))
 rw[ht]at h1 h2
 refine⟨h1,h2,?_⟩
 have hat:S.H[H0.length]? = some ⟨cells,T,0,true⟩:=by rw[hH]; simp
 have hl:=hS.live _ _ hat rfl
 have zero:len=0->cells=[]:=fun h=>List.eq_nil_of_length_eq_zero (by rw[hlen,h,Nat.zero_mul])
 have none_:∀ (ad:Option Addr) (cap:Nat),len=0->(ad=none->cap=0)->VR ⟨S.ρ,H0,S.w⟩ (.slc cells len) (.slice ad len cap):=by
  intro ad cap h0 hc
  rw[zero h0,h0]
  cases ad with
  | none=>rw[hc rfl]; exact .nilslc
  | some ad=>exact .slc [] 0 ad cap [] (Nat.zero_le _) rfl ⟨fun j u hj=>by simp at hj,fun hne=>absurd rfl hne,imm_part0⟩ fun j s u hj=>by simp at hj
 cases hv with
 | own _ _ _ _ _ ad cap o ho hvv hc hz h =>
  rw[hat]at ho; cases ho
  have h3:=h rfl
  unfold St.OwnAt at h3
  cases hρ:S.ρ H0.length with
  | none =>
   rw[hρ]at h3
   exact none_ ad cap h3.1 fun _=>h3.2
  | some b =>
   rw[hρ]at h3 hl
   obtain⟨us,rest,hh,hvr⟩:=hl
   rcases h3 with h3 | ⟨rfl,_⟩
   · exact none_ ad cap (by omega) fun _=>h3
   · have hvr':=hvr.extB h1 hu
     refine .slc cells len _ cap us hc hvr'.1 ⟨?_,fun _ hr => ?_,fun _ _=>.inl ⟨_,_,hh⟩⟩ hvr'.2
     · intro j u hj
       have hadd:(⟨b,0,none⟩:Addr).add j=⟨b,j,none⟩:=by unfold Addr.add; split<;>simp_all
       rw[hadd]
       unfold World.cell?
       simp only[hh,Option.isSome_none,Bool.false_eq_true,if_false]
       simp[List.getElem?_append_left (getElem?_lt hj),hj]
     · obtain⟨i,o,ho,hl',hρ'⟩:=hr
       have hi:i<H0.length:=getElem?_lt ho
       have ho':S.H[i]? = some o:=by rw[hH,List.getElem?_append_left hi]; exact ho
       have:=hS.inj i H0.length o _ b ho' hat hl' (AO.own_live rfl) hρ' hρ
       omega
theorem kro_sound (hS:Sim S) (he:EnvR S env a.tmps) {o:Oper} {T:TypeId} {sz len:Nat} {z:List SV} {parts:List (Nat×SV)} (hc:kroB P o.op T sz len z parts=true) :
 ∃ v ρ' w',(execOp a.eval o).run P S.w=.ok (.value v) w'∧Ext S.H.length S ⟨ρ',S.H,w'⟩∧Sim ⟨ρ',S.H,w'⟩∧VR ⟨ρ',S.H,w'⟩ (.slc (fillS (List.replicate len z).flatten (parts.map fun p=>(p.1*sz,p.2))) len) v:=by
 unfold kroB at hc
 simp only[Bool.and_eq_true,beq_iff_eq,List.all_eq_true,decide_eq_true_eq]at hc
 obtain⟨⟨⟨⟨h1,h2⟩,h3⟩,h4⟩,h5⟩:=hc
 have hm:(parts.map fun p=>(p.1,Od.c p.2)).map (fun p=>(p.1*sz,env.ev p.2))=parts.map fun p=>(p.1*sz,p.2):=by
  rw[List.map_map]; rfl
 obtain⟨nv,S',sv,hrun,hext,hsim,hvr,rfl,hH⟩:=eff_sound (o:=o) hS he h1 rfl (K:=fun sv H'=>sv=.own S.H.length 0 len sz 0∧H'=S.H++[⟨fillS (List.replicate len z).flatten (parts.map fun p=>(p.1*sz,p.2)),T,0,true⟩]) (by
  refine⟨?_,?_,?_⟩
  · intro p hp
    obtain⟨q,hq,rfl⟩:=List.mem_map.1 hp
    obtain⟨k1,k2⟩:=h5 q hq
    refine⟨?_,k1⟩
    unfold partK at k2
    split at k2
    · rename_i l hl
      rw[Bool.and_eq_true,beq_iff_eq]at k2
      show partOk sz (env.ev (.c q.2))
      simp only[Env.ev,hl]
      exact⟨k2.1,rfl⟩
    · cases k2
  · rw[hm]; exact h2
  · rw[hm]; exact⟨rfl,rfl⟩)
 obtain⟨k1,k2,k3⟩:=thaw hsim hH (fun i o ho=>fun s hs=>(hS.bel i o ho s hs).1) (SV.underL_mono (Nat.zero_le _) _ h3) h4 hvr
 refine⟨nv,S'.ρ,S'.w,?_,hext.trans (k1.mono (Nat.le_refl _)),k2,k3⟩
 rcases hrun with hrun | ⟨hrun,h0⟩
 · exact hrun
 · subst h0; cases hvr
theorem kr1_sound (hS:Sim S) (he:EnvR S env a.tmps) {o:Oper} {T:TypeId} {len:Nat} {z:List SV} {parts:List (Nat×Od)} (hc:chkE P o.op (.bsl T 1 len z parts)=true) (hp:(pv (.kr1 T len z parts) env.ev S.H).1) :
 ∃ v ρ' w',(execOp a.eval o).run P S.w=.ok (.value v) w'∧Ext S.H.length S ⟨ρ',S.H,w'⟩∧Sim ⟨ρ',S.H,w'⟩∧VR ⟨ρ',S.H,w'⟩ (pv (.kr1 T len z parts) env.ev S.H).2 v:=by
 simp only[pv]at hp ⊢
 obtain⟨⟨h2,h3,h4⟩,h5⟩:=hp
 obtain⟨nv,S',sv,hrun,hext,hsim,hvr,rfl,hH⟩:=eff_sound (o:=o) hS he hc rfl (K:=fun sv H'=>sv=.own S.H.length 0 len 1 0∧H'=S.H++[⟨fillS (List.replicate len z).flatten (parts.map fun p=>(p.1*1,env.ev p.2)),T,0,true⟩]) (by
  refine⟨fun p hp=>⟨(h5 p hp).2,(h5 p hp).1⟩,?_,rfl,rfl⟩
  rw[List.all_eq_true]at h2; exact h2)
 obtain⟨k1,k2,k3⟩:=thaw hsim hH (fun i o ho=>fun s hs=>(hS.bel i o ho s hs).1) (SV.underL_mono (Nat.zero_le _) _ h3) h4 hvr
 refine⟨nv,S'.ρ,S'.w,?_,hext.trans (k1.mono (Nat.le_refl _)),k2,k3⟩
 rcases hrun with hrun | ⟨hrun,h0⟩
 · exact hrun
 · subst h0; cases hvr
theorem xj_sound (hS:Sim S) (he:EnvR S env a.tmps) (hN:a.tmps.size=N) (hd:d.Ok S.w a.defers) {o:Oper} {o':Ins} (hdst:o.dst=o'.d) (hlt:∀ t,o.dst=some t->t<N) (hc:chkJ P o.op o'.j=true)
 {K:XE->Env->List AO->Prop} (h:xj P o' env S.H K) {next:Act->World->Prop} {Q:Exit->Act->World->Prop}
 (hnext:∀ a' w',Post S N d K .normal a' w'->next a' w') (hQ:∀ ch a' w',Post S N d K (.panic ch) a' w'->Q (.panic ch) a' w'):o.wq P a S.w next Q:=by
 have hlt':∀ t,o.dst=some t->t<a.tmps.size:=by rw[hN]; exact hlt
 have fin:∀ (v:Value) (s:SV) (ρ':Nat->Option Nat) (H':List AO) (w':World),Ext S.H.length S ⟨ρ',H',w'⟩->Sim ⟨ρ',H',w'⟩->VR ⟨ρ',H',w'⟩ s v->K .normal (env.put o'.d s) H'->next (a.put o.dst v) w':=by
  intro v s ρ' H' w' h1 h2 h3 h4
  refine hnext _ _ ⟨.normal,env.put o'.d s,ρ',H',trivial,h1,h2,?_,by rw[put_size,hN],by rw[put_defers]; exact hd.ext hS h1,h4⟩
  rw[←hdst]
  exact(he.ext h1).put hlt' h3
 unfold xj at h
 cases hj:o'.j with
 | p i =>
  rw[hj]at h hc
  obtain⟨h1,h2⟩:=h
  have key:∃ v ρ' w',(execOp a.eval o).run P S.w=.ok (.value v) w'∧Ext S.H.length S ⟨ρ',S.H,w'⟩∧Sim ⟨ρ',S.H,w'⟩∧VR ⟨ρ',S.H,w'⟩ (pv i env.ev S.H).2 v:=by
   by_cases hk:∃ T sz len z parts,i=.kro T sz len z parts
   · obtain⟨T,sz,len,z,parts,rfl⟩:=hk
     exact kro_sound hS he hc
   by_cases hk1:∃ T len z parts,i=.kr1 T len z parts
   · obtain⟨T,len,z,parts,rfl⟩:=hk1
     exact kr1_sound hS he hc h1
   · have hc':chkI P o.op i=true:=by
      cases i<;>first | exact hc | exact absurd ⟨_,_,_,_,_,rfl⟩ hk | exact absurd ⟨_,_,_,_,rfl⟩ hk1
     obtain⟨v,hrun,hv⟩:=pure_sound hS he hc' h1
     exact⟨v,S.ρ,S.w,hrun,Ext.refl _ S,hS,hv⟩
  obtain⟨v,ρ',w',hrun,hext,hsim,hv⟩:=key
  unfold Oper.wq
  rw[hrun,Oper.uponIn_value]
  exact fin v _ ρ' S.H w' hext hsim hv h2
 | q f args =>
  rw[hj]at h hc
  obtain⟨r,h1,h2⟩:=h
  refine okC_wp hS he hc h1 fun v ρ' w' hext hsim hv => ?_
  exact fin v r ρ' S.H w' hext hsim hv h2
 | e i =>
  rw[hj]at h hc
  by_cases hcall:i.isCall=true
  · cases i<;>simp[E.isCall]at hcall
    case call f args =>
     obtain⟨Pt,h1,h2⟩:=h
     refine okCP_wp hS he hc h1 fun out H' v ρ' w' hpt hext hsim => ?_
     have h2:=h2 out H' hpt
     cases out with
     | ret r=>exact fun hv=>fin v r ρ' H' w' hext hsim hv h2
     | pan x =>
      intro hv
      exact hQ _ _ _ ⟨.panic x,env,ρ',H',⟨v,rfl,hv⟩,hext,hsim,he.ext hext,hN,hd.ext hS hext,h2⟩
    case calln f args =>
     obtain⟨r,L,h1,h2⟩:=h
     refine okCP_wp hS he hc (h1 S.H rfl).toP fun out H' v ρ' w' hpt hext hsim => ?_
     obtain⟨rfl,rfl⟩:=hpt
     exact fun hv=>fin v r ρ' (S.H++L) w' hext hsim hv h2
    case pan x =>
     obtain⟨hvd,h2⟩:=h
     generalize hop:o.op=op at hc
     simp only[chkJ,chkE]at hc
     split at hc
     · rename_i x0
       have hx':=(chkOd_spec hc he).ug hvd
       split at h2
       · rename_i t y hug
         rw[hug]at hx'
         generalize hv:a.eval x0=v at hx'
         cases hx' with
         | ifc _ _ v hy =>
          unfold Oper.wq
          have hrun:(execOp a.eval o).run P S.w=.halt (.panic (.iface t v)) S.w:=by
           simp only[execOp,hop,hv,Instr.panic]; rfl
          rw[hrun,Oper.uponIn_panic]
          exact hQ _ _ _ ⟨.panic (.ifc t y),env,S.ρ,S.H,⟨_,rfl,.ifc _ _ _ hy⟩,Ext.refl _ S,hS,he,hN,hd,h2⟩
       · exact h2.elim
     · cases hc
  · have hcall':i.isCall=false:=by simpa using hcall
    have h':xe i env.ev S.H fun v H'=>K .normal (env.put o'.d v) H':=by
     cases i<;>first | exact h | simp[E.isCall]at hcall'
    obtain⟨nv,S',sv,hrun,hext,hsim,hvr,hK⟩:=eff_sound (o:=o) hS he hc hcall' h'
    unfold Oper.wq
    rcases hrun with hrun | ⟨hrun,rfl⟩
    · rw[hrun,Oper.uponIn_value]; exact fin nv sv S'.ρ S'.H S'.w hext hsim hvr hK
    · rw[hrun,Oper.uponIn_skip]; exact fin _ sv S'.ρ S'.H S'.w hext hsim hvr hK
theorem xo_sound (hS:Sim S) (he:EnvR S env a.tmps) (hN:a.tmps.size=N) (hd:d.Ok S.w a.defers) {ops:Array Oper} {o:Oper} {o':Ins} (hc:chkIns P N ops o o'=true)
 {K:XE->Env->List AO->Prop} (h:xo P o' env S.H K) {next:Act->World->Prop} {Q:Exit->Act->World->Prop}
 (hnext:∀ a' w',Post S N d K .normal a' w'->next a' w') (hQ:∀ ch a' w',Post S N d K (.panic ch) a' w'->Q (.panic ch) a' w'):StepOf P ops o a S.w next Q:=by
 unfold chkIns at hc
 rw[Bool.and_eq_true,Bool.and_eq_true,Bool.and_eq_true,beq_iff_eq]at hc
 obtain⟨⟨⟨hdst,hlt0⟩,hg⟩,hj⟩:=hc
 have hlt:∀ t,o.dst=some t->t<N:=by intro t ht; rw[ht]at hlt0; simpa using hlt0
 have hlt':∀ t,o.dst=some t->t<a.tmps.size:=by rw[hN]; exact hlt
 unfold StepOf
 unfold xo at h
 cases hog:o.guard with
 | none =>
  rw[hog]at hg
  cases hog':o'.g with
  | some x=>rw[hog']at hg; cases hg
  | none =>
   rw[hog']at h
   rw[if_pos (by simp[Region.wanted,hog])]
   exact xj_sound hS he hN hd hdst hlt hj h hnext hQ
 | some jw =>
  obtain⟨j,want⟩:=jw
  rw[hog]at hg
  cases hog':o'.g with
  | none=>rw[hog']at hg; cases hg
  | some sw =>
   obtain⟨s,want'⟩:=sw
   rw[hog']at hg h
   simp only[Bool.and_eq_true,beq_iff_eq]at hg
   obtain⟨rfl,hs⟩:=hg
   simp only at h
   obtain⟨hb,h⟩:=h
   have hw:Region.wanted o (yielded ops a.tmps)=(env.get s).on want:=by
    unfold Region.wanted
    rw[hog]
    simp only
    rw[yielded_spec hs]
    exact on_spec (he.get s) hb
   rw[hw]
   have skip:∀ (sv:SV),(env.get s).on want=false->VR S sv undef->K .normal (env.put o'.d sv) S.H->next (a.put o.dst undef) S.w:=by
    intro sv hoff hv hK
    refine hnext _ _ ⟨.normal,env.put o'.d sv,S.ρ,S.H,trivial,Ext.refl _ S,hS,?_,by rw[put_size,hN],by rw[put_defers]; exact hd,hK⟩
    rw[←hdst]
    exact he.put hlt' hv
   cases hoj:o'.j with
   | p i =>
    rw[hoj]at h hj
    obtain⟨h1,h2⟩:=h
    cases hon:(env.get s).on want with
    | true =>
     rw[if_pos rfl]
     have key:∃ v ρ' w',(execOp a.eval o).run P S.w=.ok (.value v) w'∧Ext S.H.length S ⟨ρ',S.H,w'⟩∧Sim ⟨ρ',S.H,w'⟩∧VR ⟨ρ',S.H,w'⟩ (pv i env.ev S.H).2 v:=by
      by_cases hk:∃ T sz len z parts,i=.kro T sz len z parts
      · obtain⟨T,sz,len,z,parts,rfl⟩:=hk
        exact kro_sound hS he hj
      by_cases hk1:∃ T len z parts,i=.kr1 T len z parts
      · obtain⟨T,len,z,parts,rfl⟩:=hk1
        exact kr1_sound hS he hj (h1 hon)
      · have hc':chkI P o.op i=true:=by
         cases i<;>first | exact hj | exact absurd ⟨_,_,_,_,_,rfl⟩ hk | exact absurd ⟨_,_,_,_,rfl⟩ hk1
        obtain⟨v,hrun,hv⟩:=pure_sound hS he hc' (h1 hon)
        exact⟨v,S.ρ,S.w,hrun,Ext.refl _ S,hS,hv⟩
     obtain⟨v,ρ',w',hrun,hext,hsim,hv⟩:=key
     unfold Oper.wq
     rw[hrun,Oper.uponIn_value]
     refine hnext _ _ ⟨.normal,_,ρ',S.H,trivial,hext,hsim,?_,by rw[put_size,hN],by rw[put_defers]; exact hd.ext hS hext,h2⟩
     rw[←hdst]
     exact(he.ext hext).put hlt' (.gd _ _ _ (fun e=>by rw[hon]at e; cases e) fun _=>hv)
    | false =>
     rw[if_neg (by simp)]
     exact skip _ hon (.gd _ _ _ (fun _=>rfl) fun e=>by rw[hon]at e; cases e) h2
   | q f args =>
    rw[hoj]at h hj
    obtain⟨r,h1,h2⟩:=h
    cases hon:(env.get s).on want with
    | true =>
     rw[if_pos rfl]
     refine okC_wp hS he hj (h1 hon) fun v ρ' w' hext hsim hv => ?_
     refine hnext _ _ ⟨.normal,_,ρ',S.H,trivial,hext,hsim,?_,by rw[put_size,hN],by rw[put_defers]; exact hd.ext hS hext,h2⟩
     rw[←hdst]
     exact(he.ext hext).put hlt' (.gd _ _ _ (fun e=>by rw[hon]at e; cases e) fun _=>hv)
    | false =>
     rw[if_neg (by simp)]
     exact skip _ hon (.gd _ _ _ (fun _=>rfl) fun e=>by rw[hon]at e; cases e) h2
   | e i =>
    rw[hoj]at h
    simp only at h
    cases hon:(env.get s).on want with
    | true =>
     rw[if_pos rfl]
     exact xj_sound hS he hN hd hdst hlt hj (h.1 hon) hnext hQ
    | false =>
     rw[if_neg (by simp)]
     exact skip _ hon (.val _) (h.2 hon)
theorem Post.trans {S S':St} {K:XE->Env->List AO->Prop} {e:Exit} {a:Act} {w:World} (he:Ext S.H.length S S') (h:Post S' N d K e a w):Post S N d K e a w:=by
 obtain⟨x,env,ρ,H,h1,h2,h3⟩:=h
 exact⟨x,env,ρ,H,h1,he.trans (h2.mono (he.len (Nat.le_refl _))),h3⟩
def chkL (P:Program) (N:Nat) (ops:Array Oper):List Oper->List Ins->Bool
 | [],[]=>true
 | o::r,o'::r'=>chkIns P N ops o o'&&chkL P N ops r r'
 | _,_=>false
theorem xops_sound {ops:Array Oper} {K:XE->Env->List AO->Prop}:∀ (l:List Oper) (l':List Ins) {S:St} {env:Env} {a:Act},Sim S->EnvR S env a.tmps->a.tmps.size=N->d.Ok S.w a.defers →
 chkL P N ops l l'=true->xops P l' env S.H K->wpList P ops (Post S N d K) l a S.w
 | [],[],S,env,a,hS,he,hN,hd,_,h=>⟨.normal,env,S.ρ,S.H,trivial,Ext.refl _ S,hS,he,hN,hd,h⟩
 | [],_::_,S,env,a,hS,he,hN,hd,hc,h=>by simp[chkL]at hc
 | _::_,[],S,env,a,hS,he,hN,hd,hc,h=>by simp[chkL]at hc
 | o::r,o'::r',S,env,a,hS,he,hN,hd,hc,h=>by
  simp only[chkL,Bool.and_eq_true]at hc
  refine wpList_step fun K' hK' => ?_
  have hstep:=xo_sound (Q:=Post S N d K) hS he hN hd hc.1 (by simpa only[xops]using h) (next:=K') (by
   rintro a' w' ⟨x,env',ρ',H',hx,hext,hsim,henv,hN',hd',hk⟩
   apply hK'
   cases x<;>simp only[ER]at hx
   simp only at hk
   have ih:=xops_sound r r' (S:=⟨ρ',H',w'⟩) hsim henv hN' hd' hc.2 hk
   have mono:∀ (l:List Oper) (a:Act) (w:World),wpList P ops (Post ⟨ρ',H',w'⟩ N d K) l a w->wpList P ops (Post S N d K) l a w:=by
    intro l
    induction l with
    | nil=>intro a w h; exact Post.trans hext h
    | cons o l ih =>
     intro a w h
     simp only[wpList]at h ⊢
     split
     · rename_i hw
       rw[if_pos hw]at h
       exact Oper.wq_mono ih (fun _ _ _ _ h=>Post.trans hext h) h
     · rename_i hw
       rw[if_neg hw]at h
       exact ih _ _ h
   exact mono r a' w' ih) (by
   rintro ch a' w' ⟨x,env',ρ',H',hx,hrest⟩
   cases x<;>simp only[ER]at hx
   exact⟨.panic _,env',ρ',H',hx,hrest⟩)
  exact hstep
end
end Go.Ab
namespace Go.Ab
variable [GlobEnv] [FrEnv] [KnEnv]
section
variable {P:Program}
def rchB (ops:Array Oper):Nat->Nat->Nat->Bool
 | 0,_,_=>false
 | n+1,i,k=>match ops[i]? with
  | none=>false
  | some o=>(o.after.toList.any fun e=>Region.binds .any e&&e.on==k)||(o.after.toList.any fun e=>Region.binds .any e&&rchB ops n e.on k)
theorem rch_listed {ops:Array Oper} {L:Nat->Prop} (hcl:∀ j o,L j->ops[j]? = some o->∀ e∈o.after,Region.binds .any e=true->L e.on) :
 ∀ (n i k:Nat) (o:Oper),ops[i]? = some o->(∀ e∈o.after,Region.binds .any e=true->L e.on)->rchB ops n i k=true->L k
 | 0,_,_,_,_,_,h=>by cases h
 | n+1,i,k,o,ho,hw,h=>by
  simp only[rchB,ho,Bool.or_eq_true,List.any_eq_true,Bool.and_eq_true,beq_iff_eq]at h
  rcases h with ⟨e,he,hb,hk⟩ | ⟨e,he,hb,hr⟩
  · rw[←hk]; exact hw e (by simpa using he) hb
  · have hL:=hw e (by simpa using he) hb
    cases n with
    | zero=>cases hr
    | succ n =>
     cases ho2:ops[e.on]? with
     | none=>simp[rchB,ho2]at hr
     | some o2=>exact rch_listed hcl (n+1) e.on k o2 ho2 (hcl e.on o2 hL ho2) hr
def tailB (ops:Array Oper) (n0:Nat):Bool :=
 decide (n0≤ops.size)&&(List.range ops.size).all fun i=>match ops[i]? with
  | none=>false
  | some o=>(o.after.toList.all fun e => !Region.binds .any e||decide (e.on<i)) &&
   (if i<n0 then(match o.guard with | none=>true | some (g,_)=>decide (g<n0))else(List.range i).all fun k=>rchB ops ops.size i k)
structure TailOk (ops:Array Oper) (n0:Nat):Prop where
 le:n0≤ops.size
 edge:∀ i o,ops[i]? = some o->∀ e∈o.after,Region.binds .any e=true->e.on<i
 guard:∀ i o,i<n0->ops[i]? = some o->∀ g w,o.guard=some (g,w)->g<n0
 all:∀ i o,n0≤i->ops[i]? = some o->∀ k,k<i->rchB ops ops.size i k=true
structure TailWt (ops:Array Oper) (n0:Nat):Prop where
 le:n0≤ops.size
 edge:∀ i o,ops[i]? = some o->∀ e∈o.after,Region.binds .any e=true->e.on<i
 guard:∀ i o,i<n0->ops[i]? = some o->∀ g w,o.guard=some (g,w)->g<n0
 all:∀ i o,n0≤i->ops[i]? = some o->∀ k,k<n0->rchB ops ops.size i k=true
theorem TailOk.wt {ops:Array Oper} {n0:Nat} (h:TailOk ops n0):TailWt ops n0:=⟨h.le,h.edge,h.guard,fun i o hi ho k hk=>h.all i o hi ho k (by omega)⟩
def tailW (ops:Array Oper) (n0:Nat):Bool :=
 decide (n0≤ops.size)&&(List.range ops.size).all fun i=>match ops[i]? with
  | none=>false
  | some o=>(o.after.toList.all fun e => !Region.binds .any e||decide (e.on<i)) &&
   (if i<n0 then(match o.guard with | none=>true | some (g,_)=>decide (g<n0))else(List.range n0).all fun k=>rchB ops ops.size i k)
theorem tailW_of {ops:Array Oper} {n0:Nat} (h:tailW ops n0=true):TailWt ops n0:=by
 unfold tailW at h
 rw[Bool.and_eq_true,List.all_eq_true]at h
 obtain⟨h1,h2⟩:=h
 have key:∀ i o,ops[i]? = some o->(o.after.toList.all fun e => !Region.binds .any e||decide (e.on<i))=true ∧
  (if i<n0 then(match o.guard with | none=>true | some (g,_)=>decide (g<n0))else(List.range n0).all fun k=>rchB ops ops.size i k)=true:=by
  intro i o ho
  have:=h2 i (by rw[List.mem_range]; exact(Array.getElem?_eq_some_iff.1 ho).1)
  rw[ho]at this
  simpa only[Bool.and_eq_true]using this
 refine⟨of_decide_eq_true h1,?_,?_,?_⟩
 · intro i o ho e he hb
   have:=(key i o ho).1
   rw[List.all_eq_true]at this
   have:=this e (by simpa using he)
   rw[hb]at this
   simpa using this
 · intro i o hi ho g w hg
   have:=(key i o ho).2
   rw[if_pos hi,hg]at this
   simpa using this
 · intro i o hi ho k hk
   have:=(key i o ho).2
   rw[if_neg (by omega),List.all_eq_true]at this
   exact this k (by rw[List.mem_range]; exact hk)
theorem tail_of {ops:Array Oper} {n0:Nat} (h:tailB ops n0=true):TailOk ops n0:=by
 unfold tailB at h
 rw[Bool.and_eq_true,List.all_eq_true]at h
 obtain⟨h1,h2⟩:=h
 have key:∀ i o,ops[i]? = some o->(o.after.toList.all fun e => !Region.binds .any e||decide (e.on<i))=true ∧
  (if i<n0 then(match o.guard with | none=>true | some (g,_)=>decide (g<n0))else(List.range i).all fun k=>rchB ops ops.size i k)=true:=by
  intro i o ho
  have:=h2 i (by rw[List.mem_range]; exact(Array.getElem?_eq_some_iff.1 ho).1)
  rw[ho]at this
  simpa only[Bool.and_eq_true]using this
 refine⟨of_decide_eq_true h1,?_,?_,?_⟩
 · intro i o ho e he hb
   have:=(key i o ho).1
   rw[List.all_eq_true]at this
   have:=this e (by simpa using he)
   rw[hb]at this
   simpa using this
 · intro i o hi ho g w hg
   have:=(key i o ho).2
   rw[if_pos hi,hg]at this
   simpa using this
 · intro i o hi ho k hk
   have:=(key i o ho).2
   rw[if_neg (by omega),List.all_eq_true]at this
   exact this k (by rw[List.mem_range]; exact hk)
theorem getD_sz {listed:Array Bool} {i:Nat} (h:i<listed.size):listed.getD i true=listed.getD i false:=by
 simp[Array.getD_eq_getD_getElem?,Array.getElem?_eq_getElem h]
theorem ready_none {ops:Array Oper} (hedge:∀ i o,ops[i]? = some o->∀ e∈o.after,Region.binds .any e=true->e.on<i) {listed:Array Bool} (hsz:listed.size=ops.size) (hr:Region.ready .any ops listed=[]) :
 ∀ i,i<ops.size->listed.getD i false=true:=by
 intro i
 induction i using Nat.strongRecOn with
 | _ i ih =>
  intro hi
  cases h:listed.getD i false with
  | true=>rfl
  | false =>
   have:i∈Region.ready .any ops listed:=by
    rw[mem_ready]
    refine⟨by rw[getD_sz (by omega)]; exact h,ops[i],Array.getElem?_eq_getElem hi,fun e he hb => ?_⟩
    have:=hedge i ops[i] (Array.getElem?_eq_getElem hi) e he hb
    exact ih e.on this (by omega)
   rw[hr]at this; simp at this
theorem getD_set' {listed:Array Bool} {i k:Nat} (hi:i<listed.size):(listed.setIfInBounds i true).getD k false=if k=i then true else listed.getD k false:=by
 simp only[Array.getD_eq_getD_getElem?,Array.getElem?_setIfInBounds]
 by_cases h:i=k
 · subst h; simp[hi]
 · rw[if_neg h,if_neg (fun e=>h e.symm)]
theorem wpAny_tail {ops:Array Oper} {n0:Nat} (ht:TailWt ops n0) {Q1 Q:Exit->Act->World->Prop} (hq:∀ e a w,e≠.normal->Q1 e a w->Q e a w)
 (hn:∀ (fuel:Nat) (listed:Array Bool) (a:Act) (w:World),ops.size-n0≤fuel->listed.size=ops.size->(∀ i,i<n0->listed.getD i false=true)->(∀ i,n0≤i->listed.getD i false=false)->Q1 .normal a w->wpAny P .any ops Q fuel listed a w) :
 ∀ (fuel:Nat) (l1 listed:Array Bool) (a:Act) (w:World),l1.size=n0->listed.size=ops.size->(∀ i,i<n0->l1.getD i false=listed.getD i false)->(∀ i,n0≤i->listed.getD i false=false)->(∀ j o,listed.getD j false=true->ops[j]? = some o->∀ e∈o.after,Region.binds .any e=true->listed.getD e.on false=true) →
  wpAny P .any (ops.extract 0 n0) Q1 fuel l1 a w->wpAny P .any ops Q (fuel+(ops.size-n0)) listed a w:=by
 have hx:∀ i,(ops.extract 0 n0)[i]? = if i<n0 then ops[i]? else none:=by
  intro i
  rw[Array.getElem?_extract]
  have:=ht.le
  by_cases h:i<n0
  · rw[if_pos h,if_pos (by omega)]; simp
  · rw[if_neg h,if_neg (by omega)]
 have hxs:(ops.extract 0 n0).size=n0:=by have:=ht.le; simp; omega
 have hedge1:∀ i o,(ops.extract 0 n0)[i]? = some o->∀ e∈o.after,Region.binds .any e=true->e.on<i:=by
  intro i o ho
  rw[hx]at ho
  split at ho
  · exact ht.edge i o ho
  · cases ho
 intro fuel
 induction fuel with
 | zero =>
  intro l1 listed a w hs1 hs hl hu hcl h
  obtain⟨hr,hqn⟩:=h
  have hall:=ready_none hedge1 (by omega) hr
  exact hn _ listed a w (by omega) hs (fun i hi=>by rw[←hl i hi]; exact hall i (by omega)) hu hqn
 | succ fuel ih =>
  intro l1 listed a w hs1 hs hl hu hcl h
  obtain⟨h1,h2⟩:=h
  by_cases hr:Region.ready .any (ops.extract 0 n0) l1=[]
  · have hall:=ready_none hedge1 (by omega) hr
    exact hn _ listed a w (by omega) hs (fun i hi=>by rw[←hl i hi]; exact hall i (by omega)) hu (h1 hr)
  · have hle:=ht.le
    have hsome:∃ i,i<n0∧listed.getD i false=false:=by
     obtain⟨i,hi⟩:=List.exists_mem_of_ne_nil _ hr
     rw[mem_ready]at hi
     obtain⟨g1,o,ho,_⟩:=hi
     rw[hx]at ho
     by_cases hin:i<n0
     · rw[getD_sz (by omega)]at g1
       exact⟨i,hin,by rw[←hl i hin]; exact g1⟩
     · rw[if_neg hin]at ho; cases ho
    have hfu:fuel+1+(ops.size-n0)=(fuel+(ops.size-n0))+1:=by omega
    rw[hfu]
    refine⟨fun hr2 => ?_,fun i hi => ?_⟩
    · obtain⟨i,hin,hi⟩:=hsome
      have:=ready_none ht.edge hs hr2 i (by omega)
      rw[hi]at this; cases this
    · rw[mem_ready]at hi
      obtain⟨g1,o,ho,hdeps⟩:=hi
      have hin:i<n0:=by
       by_cases hin:i<n0
       · exact hin
       · obtain⟨k,hk,hku⟩:=hsome
         have:=rch_listed (L:=fun t=>listed.getD t false=true) hcl ops.size i k o ho (fun e he hb=>hdeps e he hb) (ht.all i o (by omega) ho k hk)
         rw[hku]at this; cases this
      have hi1:i∈Region.ready .any (ops.extract 0 n0) l1:=by
       rw[mem_ready]
       rw[getD_sz (by omega)]at g1
       refine⟨by rw[getD_sz (by omega),hl i hin]; exact g1,o,by rw[hx,if_pos hin]; exact ho,fun e he hb => ?_⟩
       rw[hl e.on (by have:=ht.edge i o ho e he hb; omega)]
       exact hdeps e he hb
      have h3:=h2 i hi1
      have hnext:∀ a' w',wpAny P .any (ops.extract 0 n0) Q1 fuel (l1.setIfInBounds i true) a' w'->wpAny P .any ops Q (fuel+(ops.size-n0)) (listed.setIfInBounds i true) a' w':=by
       intro a' w' h4
       refine ih _ _ a' w' (by simpa using hs1) (by simpa using hs) (fun k hk => ?_) (fun k hk => ?_) (fun m om hm hom e he hb => ?_) h4
       · rw[getD_set' (by omega),getD_set' (by omega),hl k hk]
       · rw[getD_set' (by omega),if_neg (by omega)]; exact hu k hk
       · rw[getD_set' (by omega)]at hm ⊢
         by_cases hei:e.on=i
         · rw[if_pos hei]
         · rw[if_neg hei]
           by_cases hmi:m=i
           · subst hmi
             rw[ho]at hom; cases hom
             exact hdeps e he hb
           · rw[if_neg hmi]at hm
             exact hcl m om hm hom e he hb
      unfold wpOp at h3 ⊢
      rw[ho]
      rw[hx,if_pos hin,ho]at h3
      simp only at h3 ⊢
      have hw:Region.wanted o (yielded (ops.extract 0 n0) a.tmps)=Region.wanted o (yielded ops a.tmps):=by
       unfold Region.wanted
       cases hg:o.guard with
       | none=>rfl
       | some gw =>
        obtain⟨g,wnt⟩:=gw
        have hgn:=ht.guard i o hin ho g wnt hg
        simp only[yielded,hx,if_pos hgn]
      rw[hw]at h3
      split at h3
      · rename_i hwt
        rw[if_pos hwt]
        exact Oper.wq_mono hnext hq h3
      · rename_i hwt
        rw[if_neg hwt]
        exact hnext _ _ h3
theorem step_wpOp' {ops:Array Oper} {Q:Exit->Act->World->Prop} {i:Nat} {o:Oper} {a:Act} {w:World} {next:Act->World->Prop} (ho:ops[i]? = some o) (h:StepOf P ops o a w next Q):wpOp P ops Q i next a w:=by
 unfold wpOp
 rw[ho]
 simp only
 unfold StepOf at h
 split
 · rename_i hw; rw[if_pos hw]at h; exact h
 · rename_i hw; rw[if_neg hw]at h; exact h
theorem tail_run {N:Nat} {ops:Array Oper} {n0:Nat} (ht:TailOk ops n0) {S:St} {db:DB} {K:XE->Env->List AO->Prop} :
 ∀ (tl:List Ins) (fuel j:Nat) (listed:Array Bool) (S':St) (env:Env) (a:Act),n0≤j->j+tl.length=ops.size->tl.length≤fuel->listed.size=ops.size->(∀ i,i<j->listed.getD i false=true)->(∀ i,j≤i->listed.getD i false=false) →
  chkL P N ops (ops.toList.drop j) tl=true->Ext S.H.length S S'->Sim S'->EnvR S' env a.tmps->a.tmps.size=N->db.Ok S'.w a.defers->xops P tl env S'.H K->wpAny P .any ops (Post S N db K) fuel listed a S'.w
 | [],fuel,j,listed,S',env,a,hj,hlen,hf,hs,hl,hu,hc,he,hS,henv,hN,hd,hx=>by
  have hp:Post S N db K .normal a S'.w:=⟨.normal,env,S'.ρ,S'.H,trivial,he,hS,henv,hN,hd,hx⟩
  have hr:∀ i,i∉Region.ready .any ops listed:=by
   intro i hi
   rw[mem_ready]at hi
   obtain⟨g1,o,ho,_⟩:=hi
   have hlt:=(Array.getElem?_eq_some_iff.1 ho).1
   rw[getD_sz (by omega),hl i (by simp at hlen; omega)]at g1; cases g1
  cases fuel with
  | zero=>exact⟨List.eq_nil_iff_forall_not_mem.2 hr,hp⟩
  | succ n=>exact⟨fun _=>hp,fun i hi=>absurd hi (hr i)⟩
 | o'::tl,fuel,j,listed,S',env,a,hj,hlen,hf,hs,hl,hu,hc,he,hS,henv,hN,hd,hx=>by
  simp only[List.length_cons]at hlen hf
  obtain⟨f,rfl⟩:∃ f,fuel=f+1:=⟨fuel-1,by omega⟩
  have hjl:j<ops.size:=by omega
  refine⟨fun hr => ?_,fun i hi => ?_⟩
  · have:=ready_none ht.edge hs hr j hjl
    rw[hu j (Nat.le_refl _)]at this; cases this
  · rw[mem_ready]at hi
    obtain⟨g1,o,ho,hdeps⟩:=hi
    have hlt:=(Array.getElem?_eq_some_iff.1 ho).1
    rw[getD_sz (by omega)]at g1
    have hij:i=j:=by
     rcases Nat.lt_trichotomy i j with h | h | h
     · rw[hl i h]at g1; cases g1
     · exact h
     · have:=rch_listed (L:=fun t=>t<j) (fun m om hm hom e he hb=>by have:=ht.edge m om hom e he hb; omega) ops.size i j o ho (fun e hem hb=>by
        have h7:=hdeps e hem hb
        by_cases h8:e.on<j
        · exact h8
        · rw[hu e.on (by omega)]at h7; cases h7) (ht.all i o (by omega) ho j h)
       exact absurd this (Nat.lt_irrefl _)
    subst hij
    have hdrop:ops.toList.drop i=o::ops.toList.drop (i+1):=by
     rw[List.drop_eq_getElem_cons (by simpa using hlt)]
     congr 1
     rw[Array.getElem?_eq_getElem hlt]at ho
     simpa using ho
    rw[hdrop]at hc
    simp only[chkL,Bool.and_eq_true]at hc
    refine step_wpOp' ho (xo_sound (Q:=Post S N db K) hS henv hN hd hc.1 (by simpa only[xops]using hx) ?_ ?_)
    · rintro a' w' ⟨x,env',ρ',H',hx',hext,hsim,henv',hN',hd',hk⟩
      cases x<;>simp only[ER]at hx'
      refine tail_run ht tl f (i+1) _ ⟨ρ',H',w'⟩ env' a' (by omega) (by omega) (by omega) (by simpa using hs) (fun k hk => ?_) (fun k hk => ?_) hc.2 (he.trans (hext.mono (he.len (Nat.le_refl _)))) hsim henv' hN' hd' hk
      · rw[getD_set' (by omega)]
        split
        · rfl
        · exact hl k (by omega)
      · rw[getD_set' (by omega),if_neg (by omega)]; exact hu k (by omega)
    · rintro ch a' w' ⟨x,env',ρ',H',hx',hext,hsim,henv',hN',hd',hk⟩
      cases x<;>simp only[ER]at hx'
      exact⟨.panic _,env',ρ',H',hx',he.trans (hext.mono (he.len (Nat.le_refl _))),hsim,henv',hN',hd',hk⟩
end
end Go.Ab
