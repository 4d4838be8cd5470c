/-
  Steps of the proof: contracts of functions and plain facts that the statement rests on.
-/
import Derived.Test.YtmkdpmfhlfhjkaaGreatDoorCore1
import Derived.Laws.Append
import Derived.Laws.AppendOwn
import Derived.Laws.MakeOwn
import Derived.Laws.IdiomStrings
import Derived.Deep.Upon
import Derived.Laws.Cover3
import Derived.RangeFuncLeaves
import Derived.RangeFuncRecord
import Derived.Orders
import Derived.Conc.MuLone
set_option linter.all false
namespace Go.Ab
variable [GlobEnv] [FrEnv] [KnEnv]
inductive E where
 | alc (T:TypeId) (z:List SV)
 | box (T:TypeId) (x:Od)
 | bsl (T:TypeId) (sz len:Nat) (z:List SV) (parts:List (Nat×Od))
 | app (T:TypeId) (sz bytes:Nat) (s x:Od)
 | st (n:Nat) (p x:Od)
 | stw (ws:List Nat) (n:Nat) (p x:Od)
 | call (f:Od) (args:List Od)
 | nil (T:TypeId) (sz:Nat) (x:Od)
 | sby (x:Od)
 | aps (T:TypeId) (s x:Od)
 | pan (x:Od)
 | mkm (T:TypeId)
 | mup (kk:KK) (m k v:Od)
def sbyts (s:ByteArray):List SV:=s.data.toList.map fun b=>.val (.int .u8 b.toNat)
def SV.isNil:SV->Bool
 | .val (.slice none 0 0)=>true
 | _=>false
def cellsOk (l:List SV):Prop:=∀ s∈l,s.isCell=true
def SV.els (H:List AO) (sz:Nat) (s:SV):List SV:=(s.row H).take (s.slen*sz)
def setObj (H:List AO) (i:Nat) (f:AO->AO):List AO :=
 match H[i]? with
 | some o=>H.set i (f o)
 | none=>H
def AO.put (o:AO) (off:Nat) (cs:List SV):AO:={ o with cells:=o.cells.take off++cs++o.cells.drop (off+cs.length) }
def AO.grow (o:AO) (cs:List SV):AO:={ o with cells:=o.cells++cs,ver:=o.ver+1 }
def xe (i:E) (g:Od->SV) (H:List AO) (K:SV->List AO->Prop):Prop :=
 match i with
 | .alc T z=>K (.ptr (.own H.length 0 0 0 0) 0) (H++[⟨z,T,0,true⟩])
 | .box T x=>(g x).vd=true∧cellsOk (g x).ug.flat∧K (.ptr (.own H.length 0 0 0 0) 0) (H++[⟨(g x).ug.flat,T,0,true⟩])
 | .bsl T sz len z parts =>
  (∀ p∈parts,partOk sz (g p.2)∧p.1*sz+sz≤len*sz)∧cellsOk (fillS (List.replicate len z).flatten (parts.map fun p=>(p.1*sz,g p.2))) ∧
   K (.own H.length 0 len sz 0) (H++[⟨fillS (List.replicate len z).flatten (parts.map fun p=>(p.1*sz,g p.2)),T,0,true⟩])
 | .app T sz bytes s x =>
  (g s).vd=true∧(g x).vd=true∧(g x).ug.isSl=true∧(g x).ug.slen*sz≤((g x).ug.row H).length∧cellsOk ((g x).ug.els H sz) ∧
   ((g s).ug.slen+(g x).ug.slen)*bytes≤140737488355328∧(g s).ug.slen+(g x).ug.slen≤140737488355328 ∧
   match (g s).ug with
   | .own i 0 n sz' ver =>
    sz'=sz∧(∃ o,H[i]? = some o∧o.live=true∧o.ver=ver∧o.ty=T∧o.cells.length=n*sz)∧K (.own i 0 (n+(g x).ug.slen) sz (ver+1)) (setObj H i fun o=>o.grow ((g x).ug.els H sz))
   | v=>v.isNil=true∧K (.own H.length 0 (g x).ug.slen sz 1) (H++[⟨(g x).ug.els H sz,T,1,true⟩])
 | .st n p x =>
  (g p).vd=true∧(g x).vd=true∧cellsOk (g x).ug.flat∧(g x).ug.flat.length=n∧0<n ∧
   match (g p).ug with
   | .ptr (.own i off _ _ ver) k=>off+k+n≤(objCells H i ver).length∧K (.val undef) (setObj H i fun o=>o.put (off+k) (g x).ug.flat)
   | _=>False
 | .stw _ n p x =>
  (g p).vd=true∧(g x).vd=true∧cellsOk (g x).ug.flat∧(g x).ug.flat.length=n∧0<n ∧
   match (g p).ug with
   | .ptr (.own i off _ _ ver) k=>off+k+n≤(objCells H i ver).length∧K (.val undef) (setObj H i fun o=>o.put (off+k) (g x).ug.flat)
   | _=>False
 | .nil T sz x=>(g x).vd=true∧(g x).ug.isNil=true∧K (.own H.length 0 0 sz 0) (H++[⟨[],T,0,true⟩])
 | .aps T s x =>
  (g s).vd=true∧(g x).isS=true∧(g s).ug.slen+(g x).str.size≤140737488355328 ∧
   match (g s).ug with
   | .own i 0 n sz' ver =>
    sz'=1∧(∃ o,H[i]? = some o∧o.live=true∧o.ver=ver∧o.ty=T∧o.cells.length=n*1)∧K (.own i 0 (n+(g x).str.size) 1 (ver+1)) (setObj H i fun o=>o.grow (sbyts (g x).str))
   | v=>v.isNil=true∧K (.own H.length 0 (g x).str.size 1 1) (H++[⟨sbyts (g x).str,T,1,true⟩])
 | .sby x=>(g x).isS=true∧K (.slc (sbyts (g x).str) (g x).str.size) H
 | .mkm T=>K (.mp H.length 0) (H++[⟨[.mk []],T,0,false⟩])
 | .mup kk m k v=>(g m).vd=true∧(g k).isK kk=true∧(g v).vd=true ∧
  match (g m).ug,(g m).ug.mapOf H with
  | .mp i _,some x=>x.1.all kk.is=true∧(∀ v∈(g k).key kk::x.1,kk.knows v)∧K (.val undef) (setObj H i fun o=>{ o with cells:=.mk (msetK ((g k).key kk) x.1)::msetV ((g k).key kk) (g v).ug x.1 x.2 })
  | _,_=>False
 | _=>False
def infoB (P:Program) (t:TypeId) (sz bytes:Nat):Bool:=match P.info? t with | some i=>i.size==sz&&i.bytes==bytes&&(match i.zero with | some z=>z.cells.size==sz | none=>false) | none=>false
def bslB:List (Nat×Operand)->List (Nat×Od)->Bool
 | [],[]=>true
 | (f,x)::r,(f',y)::s=>f==f'&&chkOd x y&&bslB r s
 | _,_=>false
def slTB (P:Program) (t e:TypeId):Bool:=match P.underlying t with | some (.slice e')=>e'==e | _=>false
def mapKB (P:Program) (t:TypeId) (kk:KK):Bool :=
 match P.underlying t with
 | some (.map kt _)=>(match P.underlying kt with
  | some .string=>(match kk with | .s=>true | _=>false)
  | some (.int k)=>(match kk with | .i k'=>decide (k'=k) | _=>false)
  | some .bool=>(match kk with | .b=>true | _=>false)
  | some (.pointer e)=>(match kk with | .p e'=>decide (e'=e)&&(KK.p e').szB P | _=>false)
  | _=>false)
 | _=>false
def chkE (P:Program) (op:Op) (i:E):Bool :=
 match i with
 | .alc T z=>match op with | .alloc T'=>T'==T&&zeroB P T z | _=>false
 | .box T x'=>match op with | .box T' x=>T'==T&&chkOd x x' | _=>false
 | .bsl T sz len z parts=>match op with | .buildSlice t len' ps=>slTB P t T&&sizeB P T sz&&len'==len&&zeroB P T z&&z.length==sz&&decide (len*sz≤16777216)&&bslB ps.toList parts | _=>false
 | .app T sz bytes s x=>match op with
  | .call { callee:=.builtin .append,args:=as,argTypes:=ts }=>(match as.toList,ts.toList with
   | [s',x'],[t,t']=>t==t'&&chkOd s' s&&chkOd x' x&&slTB P t T&&infoB P T sz bytes&&decide (0<sz)
   | _,_=>false)
  | _=>false
 | .st n p x=>match op with | .store t p' x'=>chkOd p' p&&chkOd x' x&&sizeB P t n | _=>false
 | .stw _ n p x=>match op with | .store t p' x'=>chkOd p' p&&chkOd x' x&&sizeB P t n | _=>false
 | .nil _ _ x=>match op with | .move x' | .assign x'=>chkOd x' x | _=>false
 | .aps T s x=>match op with
  | .call { callee:=.builtin .append,args:=as,argTypes:=ts }=>(match as.toList,ts.toList with
   | [s',x'],[t,t']=>chkOd s' s&&chkOd x' x&&slTB P t T&&infoB P T 1 1&&(match P.underlying t' with | some .string=>true | _=>false)
   | _,_=>false)
  | _=>false
 | .sby x=>match op with
  | .convert src dst x'=>chkOd x' x&&(match P.underlying src with | some .string=>true | _=>false) &&
   (match P.underlying dst with | some (.slice e)=>(match P.underlying e with | some (.int .u8)=>true | _=>false) | _=>false)
  | _=>false
 | .pan x=>match op with | .panic x'=>chkOd x' x | _=>false
 | .mkm T=>match op with
  | .makeMap T' none=>T'==T
  | .makeMap T' (some (.const (.int _ _)))=>T'==T&&(match P.underlying T with | some (.map _ _)=>true | _=>false)
  | _=>false
 | .mup kk m k v=>match op with | .mapUpdate t m' k' v' | .insert t m' k' v'=>chkOd m' m&&chkOd k' k&&chkOd v' v&&mapKB P t kk | _=>false
 | .call f args=>match op with | .call { callee:=.value f',args:=as,argTypes:=_ }=>chkOd f' f&&chkOds as.toList args | _=>false
section
variable {P:Program} {S:St} {e:Env} {a:Act}
theorem slTB_spec {t T:TypeId} (h:slTB P t T=true):P.underlying t=some (.slice T):=by
 unfold slTB at h
 split at h
 · rename_i e' hu; simp at h; subst h; exact hu
 · cases h
theorem mapKB_spec {t:TypeId} {kk:KK} (h:mapKB P t kk=true):∃ kt et,P.underlying t=some (.map kt et)∧P.underlying kt=some kk.desc∧kk.szB P=true:=by
 unfold mapKB at h
 split at h
 · rename_i kt et hu
   have key:P.underlying kt=some kk.desc∧kk.szB P=true:=by
    split at h
    · rename_i hk; cases kk<;>simp at h; exact⟨hk,rfl⟩
    · rename_i k hk; cases kk<;>simp at h; subst h; exact⟨hk,rfl⟩
    · rename_i hk; cases kk<;>simp at h; exact⟨hk,rfl⟩
    · rename_i e hk
      cases kk<;>simp at h
      obtain⟨rfl,h2⟩:=h
      exact⟨hk,h2⟩
    · cases h
   exact⟨kt,et,hu,key.1,key.2⟩
 · cases h
theorem infoB_spec {t:TypeId} {sz bytes:Nat} (h:infoB P t sz bytes=true):∃ i z,P.info? t=some i∧i.zero=some z∧i.size=sz∧i.bytes=bytes∧z.cells.size=sz:=by
 unfold infoB at h
 split at h
 · rename_i i hi
   rw[Bool.and_eq_true,Bool.and_eq_true,beq_iff_eq,beq_iff_eq]at h
   obtain⟨⟨h1,h2⟩,h3⟩:=h
   split at h3
   · rename_i z hz; exact⟨i,z,hi,hz,h1,h2,by simpa using h3⟩
   · cases h3
 · cases h
theorem setRow_eq (w:World) (g:Nat) (cs cur:Array Value) (T:TypeId) (f:Nat×Nat) (hg:w.heap[g]? = some (.cells cur T f)) :
 w.setRow g cs={ w with heap:=w.heap.setIfInBounds g (.cells cs T f) }:=by
 unfold World.setRow
 congr 1
 apply Array.ext_getElem?
 intro j
 rw[Array.getElem?_modify,Array.getElem?_setIfInBounds]
 have hlt:g<w.heap.size:=by
  rcases Nat.lt_or_ge g w.heap.size with h1 | h1
  · exact h1
  · rw[Array.getElem?_eq_none h1]at hg; cases hg
 by_cases h:g=j
 · subst h; rw[if_pos rfl,if_pos rfl,if_pos hlt,hg]; rfl
 · rw[if_neg h,if_neg h]
theorem VR.els {s:SV} {v:Value} {sz:Nat} (hS:Sim S) (hv:VR S s v) (hs:s.isSl=true) (hl:s.slen*sz≤(s.row S.H).length) :
 ∃ ad cap us,v=.slice ad s.slen cap∧us.length=s.slen*sz∧VRs S (s.els S.H sz) us∧(∀ x,ad=some x->∀ j u,us[j]? = some u->S.w.cell? (x.add j)=some u)∧(ad=none->s.slen=0):=by
 cases hv with
 | slc cells len ad cap us hc hl' hi h =>
  simp only[SV.slen,SV.row,SV.els]at *
  refine⟨some ad,cap,us.take (len*sz),rfl,by simp; omega,⟨by simp; omega,?_⟩,?_,fun h=>by cases h⟩
  · exact(VRs.take (S:=S) ⟨hl',h⟩ _).2
  · intro x hx j u hj
    cases hx
    rw[List.getElem?_take]at hj
    split at hj
    · exact hi.1 j u hj
    · cases hj
 | nilslc=>exact⟨none,0,[],rfl,by simp[SV.slen],by simpa[SV.els,SV.row]using VRs.nil S,fun x hx=>by(cases hx),fun _=>rfl⟩
 | own i off len sz' ver ad cap o ho hv hc hz h =>
  simp only[SV.slen,SV.row,SV.els,List.length_drop]at *
  by_cases h0:len*sz=0
  · refine⟨ad,cap,[],rfl,by simp[h0],?_,fun x hx j u hj=>by simp at hj,hz⟩
    rw[h0]; simpa using VRs.nil S
  · have hne:off<(objCells S.H i ver).length:=by omega
    obtain⟨o',b,us,rest,u,ho',hl',hv',hρ,hh,hvr,_⟩:=hS.read (List.getElem?_eq_getElem hne)
    rw[ho]at ho'; cases ho'
    have hcells:objCells S.H i ver=o.cells:=by
     unfold objCells; rw[ho]; simp[hl',hv']
    rw[hcells]at hl hne ⊢
    have h2:=h hv'
    unfold St.OwnAt at h2
    rw[hρ]at h2
    have hlen0:len≠0:=fun e=>h0 (by simp[e])
    have had:ad=some ⟨b,off,none⟩:=by
     rcases h2 with h2 | h2
     · omega
     · exact h2.1
    subst had
    have hvd:=(hvr.drop off).take (len*sz)
    refine⟨_,cap,(us.drop off).take (len*sz),rfl,?_,hvd,?_,hz⟩
    · have:=hvr.1; simp; omega
    · intro x hx j u hj
      cases hx
      rw[List.getElem?_take]at hj
      split at hj
      · rw[List.getElem?_drop]at hj
        have hadd:(⟨b,off,none⟩:Addr).add j=⟨b,off+j,none⟩:=by unfold Addr.add; split<;>simp_all
        rw[hadd]
        unfold World.cell?
        simp only[hh,Option.isSome_none,Bool.false_eq_true,if_false]
        have:off+j<us.length:=getElem?_lt hj
        simp[List.getElem?_append_left this,hj]
      · cases hj
 | val v =>
  have:v=.slice none 0 0:=by cases v<;>simp[SV.isSl]at hs; rename_i a b c; revert hs; cases a<;>cases b<;>cases c<;>simp[SV.isSl]
  subst this
  exact⟨none,0,[],rfl,by simp[SV.slen],by simpa[SV.els,SV.row,SV.slen]using VRs.nil S,fun x hx=>by(cases hx),fun _=>rfl⟩
 | _=>simp[SV.isSl]at hs
theorem VRs.oneCells {l:List SV} {us:List Value} (h:VRs S l us) (hc:cellsOk l):∀ u∈us,u.oneCell'=true:=by
 intro u hu
 obtain⟨j,hj⟩:=List.getElem?_of_mem hu
 have hlt:j<l.length:=by rw[←h.1]; exact getElem?_lt hj
 exact(h.2 j _ u (List.getElem?_eq_getElem hlt) hj).oneCell (hc _ (List.getElem_mem hlt))
theorem VRs.unders {l:List SV} {us:List Value} (h:VRs S l us) (hc:cellsOk l):∀ s∈l,s.under S.H.length=true∧s.isCell=true:=by
 intro s hs
 obtain⟨j,hj⟩:=List.getElem?_of_mem hs
 obtain⟨u,_,hv⟩:=h.get hj
 exact⟨hv.under,hc s hs⟩
theorem VR.flat {s:SV} {v:Value} (h:VR S s v) (hc:cellsOk s.flat):∃ us,v.cells=us.toArray∧VRs S s.flat us:=by
 cases h with
 | agg l us hl h=>exact⟨us,rfl,hl,h⟩
 | val v =>
  refine⟨[v],?_,VRs.cons (.val v) (VRs.nil S)⟩
  have h1:=hc (.val v) (by simp[SV.flat])
  simp only[SV.isCell]at h1
  cases v<;>simp_all [Value.cells,Value.oneCell']
 | any v=>have:=hc .any (by simp[SV.flat]); simp[SV.isCell]at this
 | gd b x v h0 h=>have:=hc (.gd b x) (by simp[SV.flat]); simp[SV.isCell]at this
 | nilslc=>exact⟨[_],rfl,VRs.cons .nilslc (VRs.nil S)⟩
 | slc cells len a cap us hc' hl hi h=>exact⟨[_],rfl,VRs.cons (.slc cells len a cap us hc' hl hi h) (VRs.nil S)⟩
 | own i off len sz ver a cap o ho hv hc' hz h=>exact⟨[_],rfl,VRs.cons (.own i off len sz ver a cap o ho hv hc' hz h) (VRs.nil S)⟩
 | ptrI cells len k a us hl hi h=>exact⟨[_],rfl,VRs.cons (.ptrI cells len k a us hl hi h) (VRs.nil S)⟩
 | ptrO i off len sz ver k a o ho hv h=>exact⟨[_],rfl,VRs.cons (.ptrO i off len sz ver k a o ho hv h) (VRs.nil S)⟩
 | tup l us hl h=>have:=hc (.tup l) (by simp[SV.flat]); simp[SV.isCell]at this
 | fn f x y us vs hl h hl' h'=>exact⟨[_],rfl,VRs.cons (.fn f x y us vs hl h hl' h') (VRs.nil S)⟩
 | ifc t x v h=>exact⟨[_],rfl,VRs.cons (.ifc t x v h) (VRs.nil S)⟩
 | yl i l o ho h=>have:=hc (.yl i) (by simp[SV.flat]); simp[SV.isCell]at this
 | mp i ver l o ho hv h=>exact⟨[_],rfl,VRs.cons (.mp i ver l o ho hv h) (VRs.nil S)⟩
 | mpf vs l es cl us hb hn hu hl h=>exact⟨[_],rfl,VRs.cons (.mpf vs l es cl us hb hn hu hl h) (VRs.nil S)⟩
end
end Go.Ab
namespace Go.Ab
variable [GlobEnv] [FrEnv] [KnEnv]
section
variable {P:Program} {S:St} {e:Env} {a:Act}
def Eff (P:Program) (S:St) (a:Act) (o:Oper) (K:SV->List AO->Prop):Prop :=
 ∃ nv S' sv,((execOp a.eval o).run P S.w=.ok (.value nv) S'.w∨((execOp a.eval o).run P S.w=.ok .skip S'.w∧nv=undef)) ∧
  Ext S.H.length S S'∧Sim S'∧VR S' sv nv∧K sv S'.H
theorem new_at (S:St) (cells:List SV) (T:TypeId) (us rest:List Value):(S.new cells T 0 us rest).H[S.H.length]? = some ⟨cells,T,0,true⟩:=by simp[St.new]
theorem eff_ptr (hS:Sim S) {cells:List SV} {T:TypeId} {us:List Value} (hv:VRs S cells us) (hc:cellsOk cells) {o:Oper} {K:SV->List AO->Prop}
 (hrun:(execOp a.eval o).run P S.w=.ok (.value (.pointer (some ⟨S.w.heap.size,0,none⟩))) (S.w.alloc (.cells us.toArray T)))
 (hK:K (.ptr (.own S.H.length 0 0 0 0) 0) (S.H++[⟨cells,T,0,true⟩])):Eff P S a o K:=by
 refine⟨.pointer (some ⟨S.w.heap.size,0,none⟩),S.new cells T 0 us [],_,.inl ?_,ext_new S hS _ _ _ _ _,sim_new hS T 0 [] hv (hv.unders hc),?_,hK⟩
 · rw[hrun]; simp[St.new]
 · exact .ptrO _ _ _ _ _ _ _ _ (new_at S cells T us []) (Nat.le_refl _) fun _=>⟨S.w.heap.size,by simp[St.new,upd_same],rfl⟩
theorem eff_slice (hS:Sim S) {cells:List SV} {T:TypeId} {us rest:List Value} {len cap sz:Nat} (hv:VRs S cells us) (hc:cellsOk cells) {o:Oper} {K:SV->List AO->Prop}
 (hlc:len≤cap) (hsz:cap*sz≤(us++rest).length)
 (hrun:(execOp a.eval o).run P S.w=.ok (.value (.slice (some ⟨S.w.heap.size,0,none⟩) len cap)) (S.w.alloc (.cells (us++rest).toArray T)))
 (hK:K (.own S.H.length 0 len sz 0) (S.H++[⟨cells,T,0,true⟩])):Eff P S a o K:=by
 refine⟨.slice (some ⟨S.w.heap.size,0,none⟩) len cap,S.new cells T 0 us rest,_,.inl ?_,ext_new S hS _ _ _ _ _,sim_new hS T 0 rest hv (hv.unders hc),?_,hK⟩
 · rw[hrun]; simp[St.new]
 · refine .own _ _ _ _ _ _ _ _ (new_at S cells T us rest) (Nat.le_refl _) hlc (fun h=>by cases h) fun _ => ?_
   simp only[St.OwnAt,St.new,upd_same]
   refine .inr ⟨trivial,T,(us++rest).length,?_,by omega⟩
   unfold World.shape?
   rw[heap_alloc_at]
   simp
theorem setObj_some {H:List AO} {i:Nat} {o:AO} (h:H[i]? = some o) (f:AO->AO):setObj H i f=H.set i (f o):=by unfold setObj; rw[h]
theorem bslB_spec:∀ {ps:List (Nat×Operand)} {qs:List (Nat×Od)},bslB ps qs=true->EnvR S e a.tmps →
 ps.length=qs.length∧∀ (j:Nat) (p:Nat×Operand) (q:Nat×Od),ps[j]? = some p->qs[j]? = some q->p.1=q.1∧VR S (e.ev q.2) (a.eval p.2)
 | [],[],_,_=>⟨rfl,fun j p q h=>by simp at h⟩
 | [],_::_,h,_=>by simp[bslB]at h
 | _::_,[],h,_=>by simp[bslB]at h
 | (f,x)::ps,(f',y)::qs,h,he=>by
  simp only[bslB,Bool.and_eq_true,beq_iff_eq]at h
  obtain⟨h1,h2⟩:=bslB_spec h.2 he
  refine⟨by simp[h1],?_⟩
  intro j p q hp hq
  cases j with
  | zero=>simp at hp hq; subst hp hq; exact⟨h.1.1,chkOd_spec h.1.2 he⟩
  | succ j=>exact h2 j p q (by simpa using hp) (by simpa using hq)
theorem zeros_get {z:List Value} (hz:0<z.length) (n j:Nat):(List.replicate n z).flatten[j]? = if j<n*z.length then z[j % z.length]? else none:=by
 induction n generalizing j with
 | zero=>simp
 | succ n ih =>
  rw[List.replicate_succ,List.flatten_cons,List.getElem?_append]
  by_cases h:j<z.length
  · rw[if_pos h,if_pos (by rw[Nat.succ_mul]; omega),Nat.mod_eq_of_lt h]
  · rw[if_neg h,ih]
    have e1:(j-z.length) % z.length=j % z.length:=by
     rw[←Nat.mod_eq_sub_mod (by omega)]
    have e2:(j-z.length<n*z.length)↔(j<(n+1)*z.length):=by rw[Nat.succ_mul]; omega
    simp only[e1,e2]
theorem made_eq {z:List Value} (n:Nat):madeCells z.toArray (n*z.length)=(List.replicate n z).flatten.toArray:=by
 apply Array.ext'
 simp only[madeCells,Array.toList_map,Array.toList_range]
 apply List.ext_getElem?
 intro j
 by_cases hz:0<z.length
 · rw[zeros_get hz,List.getElem?_map]
   by_cases h:j<n*z.length
   · rw[if_pos h,List.getElem?_range h]
     have h2:j % z.length<z.length:=Nat.mod_lt _ hz
     simp[h2]
   · rw[if_neg h,List.getElem?_eq_none (by simp; omega)]; rfl
 · have hz0:z=[]:=by cases z with | nil=>rfl | cons _ _=>simp at hz
   subst hz0
   simp

theorem VRs.zeros {z:List SV} {us:List Value} (h:VRs S z us) (n:Nat):VRs S (List.replicate n z).flatten (List.replicate n us).flatten:=by
 induction n with
 | zero=>simpa using VRs.nil S
 | succ n ih=>rw[List.replicate_succ,List.replicate_succ,List.flatten_cons,List.flatten_cons]; exact h.append ih
theorem length_zeros {α:Type} (z:List α) (n:Nat):(List.replicate n z).flatten.length=n*z.length:=by simp
end
end Go.Ab
namespace Go.Ab
variable [GlobEnv] [FrEnv] [KnEnv]
section
variable {P:Program} {S:St} {e:Env} {a:Act}
def E.isCall:E->Bool
 | .call _ _=>true
 | .pan _=>true
 | _=>false
theorem objCells_of {H:List AO} {i:Nat} {o:AO} (ho:H[i]? = some o) (hl:o.live=true):objCells H i o.ver=o.cells:=by
 unfold objCells; rw[ho]; simp[hl]
theorem AO.grow_eq {o:AO} (h:o.live=true) (cs:List SV):o.grow cs=⟨o.cells++cs,o.ty,o.ver+1,true⟩:=by cases o; simp[AO.grow]at *; exact h
theorem VR.own_inv {i off n sz ver:Nat} {v:Value} {o:AO} (h:VR S (.own i off n sz ver) v) (ho:S.H[i]? = some o) (hv:o.ver=ver) :
 ∃ ad cap,v=.slice ad n cap∧n≤cap∧(ad=none->n=0)∧S.OwnAt i off n sz ad cap:=by
 cases h with
 | own _ _ _ _ _ ad cap o' ho' hvl hcap hz hat =>
  rw[ho]at ho'; cases ho'
  exact⟨ad,cap,rfl,hcap,hz,hat hv⟩
theorem eval_const (a:Act) (v:Value):a.eval (.const v)=v:=rfl
theorem VR.isNil {s:SV} {v:Value} (h:VR S s v) (hs:s.isNil=true):v=.slice none 0 0:=by
 unfold SV.isNil at hs
 split at hs
 · cases h; rfl
 · cases hs
theorem arr_app (l:List Value) (z:Array Value):l.toArray++z=(l++z.toList).toArray:=by apply Array.ext'; simp
theorem zeroCells_length (z:Array Value) (n:Nat):(Builtin.zeroCells z n).toList.length=n*z.size:=by simp[Builtin.zeroCells]
theorem run_append_room_row (w:World) (t tx ty e:TypeId) (i:TypeInfo) (ht:P.underlying t=some (.slice e)) (hi:P.info? e=some i)
 (g sLen sCap:Nat) (cur:Array Value) (hg:w.heap[g]? = some (.cells cur e (0,0))) (x:Value) (m:Nat) (news:List Value) (hs:Src P i.size tx x m news w)
 (hroom:sLen+m≤sCap) (hfit:sLen*i.size+news.length≤cur.size) :
 (Builtin.append_ #[t,tx] ty #[.slice (some ⟨g,0,none⟩) sLen sCap,x]).run P w =
  .ok (.slice (some ⟨g,0,none⟩) (sLen+m) sCap) (w.setRow g (cur.toList.take (sLen*i.size)++news++cur.toList.drop (sLen*i.size+news.length)).toArray):=by
 have hst:=run_storeCells_at P g (sLen*i.size) e news 0 cur w hg (by simpa using hfit) hs.one
 simp only[Nat.add_zero]at hst
 rcases hs.kind with ⟨e',hk⟩ | hk<;>simp[Builtin.append_,run_underlying ht,run_underlying hk,sizeOf,typeInfo,hi,hs.len,hroom,hs.cells,Addr.add_lit,hst]
theorem src_slice {sz:Nat} {t T:TypeId} (hu:P.underlying t=some (.slice T)) {w:World} {adx:Option Addr} {m capx:Nat} {news:List Value} (hx2:news.length=m*sz)
 (hx4:∀ x,adx=some x->∀ j u,news[j]? = some u->w.cell? (x.add j)=some u) (hx5:adx=none->m=0) (h1:∀ u∈news,u.oneCell'=true):Src P sz t (.slice adx m capx) m news w:=by
 cases adx with
 | none =>
  have h0:=hx5 rfl
  subst h0
  have:news=[]:=List.eq_nil_of_length_eq_zero (by rw[hx2]; simp)
  subst this
  exact Src.ofNil w hu capx
 | some a=>exact Src.ofSlice w hu a m capx news hx2 (hx4 a rfl) h1
theorem append_src (hS:Sim S) {t t2 T ty:TypeId} {sz bytes:Nat} (hu:P.underlying t=some (.slice T)) (hinf:infoB P T sz bytes=true)
 {i0 n ver:Nat} {ob:AO} (ho:S.H[i0]? = some ob) (hl:ob.live=true) (hver:ob.ver=ver) (hty:ob.ty=T) (hlen:ob.cells.length=n*sz)
 {ads:Option Addr} {cap:Nat} (hcap:n≤cap) (hz:ads=none->n=0) (h6:S.OwnAt i0 0 n sz ads cap)
 {xv:Value} {m:Nat} {news:List Value} {xs:List SV} (hsr:Src P sz t2 xv m news S.w) (hx3:VRs S xs news) (g5:cellsOk xs)
 (g6:(n+m)*bytes≤140737488355328) (g7:n+m≤140737488355328) :
 ∃ v' S',(Builtin.append_ #[t,t2] ty #[.slice ads n cap,xv]).run P S.w=.ok v' S'.w∧Ext S.H.length S S'∧Sim S' ∧
  VR S' (.own i0 0 (n+m) sz (ver+1)) v'∧S'.H=S.H.set i0 (ob.grow xs):=by
 obtain⟨i,zv,hi,hzv,hsz,hby,hzs⟩:=infoB_spec hinf
 have hsr':Src P i.size t2 xv m news S.w:=by rw[hsz]; exact hsr
 have hx2:=hsr.newsLen
 have hone:=hx3.oneCells g5
 have hlt:i0<S.H.length:=getElem?_lt ho
 have hself:∀ q:AO,(S.H.set i0 q)[i0]? = some q:=fun q=>List.getElem?_set_self hlt
 have hgrow:∀ s∈(ob.cells++xs),s.under S.H.length=true∧s.isCell=true:=by
  intro s hs
  simp only[List.mem_append]at hs
  rcases hs with hs | hs
  · exact hS.belL ho hl s hs
  · exact hx3.unders g5 s hs
 rw[AO.grow_eq hl]
 unfold St.OwnAt at h6
 cases hρ:S.ρ i0 with
 | none =>
  rw[hρ]at h6
  obtain⟨rfl,rfl⟩:=h6
  have hcl:ob.cells=[]:=List.eq_nil_of_length_eq_zero (by simpa using hlen)
  by_cases hm0:m=0
  · subst hm0
    have hxs:xs=[]:=List.eq_nil_of_length_eq_zero (by rw[←hx3.1,hx2]; simp)
    subst hxs
    have hn0:news=[]:=List.eq_nil_of_length_eq_zero (by rw[hx2]; simp)
    rw[hn0]at hsr'
    have hr:=run_append_nothing (P:=P) S.w t t2 ty T i hu hi ads 0 0 (Nat.le_refl _) xv hsr'
    have hext:Ext S.H.length S ⟨S.ρ,S.H.set i0 ⟨ob.cells++[],ob.ty,ob.ver+1,true⟩,S.w⟩:=by
     refine⟨fun j p hj hp => ?_,fun k hk hn=>⟨rfl,?_⟩,Nat.le_refl _,fun _ _ _ h=>h,fun _ r h=>⟨r,h⟩,rfl,rfl,rfl⟩
     · by_cases hij:j=i0
       · subst hij
         rw[ho]at hp; cases hp
         exact⟨_,hself _,by simp,fun _=>rfl⟩
       · exact⟨p,by show(S.H.set i0 _)[j]? = _; rw[List.getElem?_set_ne (by omega)]; exact hp,Nat.le_refl _,fun _=>rfl⟩
     · rintro⟨j,p,hp,hpl,hpρ⟩
       by_cases hij:j=i0
       · simp only at hpρ; rw[hij,hρ]at hpρ; cases hpρ
       · simp only at hp; rw[List.getElem?_set_ne (by omega)]at hp; exact hn ⟨j,p,hp,hpl,hpρ⟩
    refine⟨.slice ads 0 0,⟨S.ρ,S.H.set i0 ⟨ob.cells++[],ob.ty,ob.ver+1,true⟩,S.w⟩,hr,hext,?_,?_,rfl⟩
    · refine hS.step hext (by simp) ?_ ?_
      · intro j p hp
        by_cases hij:j=i0
        · subst hij
          simp only[hself]at hp; cases hp
          refine .inr ⟨fun _=>by simp only[hρ]; simp[hcl],fun s hs => ?_,fun e=>by cases e⟩
          exact⟨by simpa using (hgrow s hs).1,fun _=>(hgrow s hs).2⟩
        · exact .inl ⟨by simp only at hp; rw[List.getElem?_set_ne (by omega)]at hp; exact hp,rfl,fun _ _ _=>rfl⟩
      · intro j k p q b' hj hk hjl hkl hρj hρk
        have key:∀ (j:Nat) (p:AO),(S.H.set i0 ⟨ob.cells++[],ob.ty,ob.ver+1,true⟩)[j]? = some p->S.ρ j=some b'->S.H[j]? = some p:=by
         intro j' p' hp' hq'
         by_cases hij:j'=i0
         · rw[hij,hρ]at hq'; cases hq'
         · rw[List.getElem?_set_ne (by omega)]at hp'; exact hp'
        exact hS.inj j k p q b' (key j p hj hρj) (key k q hk hρk) hjl hkl hρj hρk
    · refine .own i0 0 0 sz _ ads 0 _ (hself _) (by simp[hver]) (Nat.le_refl _) (fun _=>rfl) fun _ => ?_
      simp[St.OwnAt,hρ]
  · simp only[Nat.zero_add]at g6 g7
    have hf0:(Builtin.firstCells i.size 0 (.slice ads 0 0)).run P S.w.drew=.ok (([]:List Value).toArray) S.w.drew:=by cases ads<;>simp[Builtin.firstCells,loadCells,loadCellsFrom]
    have hr:(Builtin.append_ #[t,t2] ty #[.slice ads 0 0,xv]).run P S.w =
     .ok (.slice (some ⟨S.w.heap.size,0,none⟩) m (grownCap S.w m 0 T)) (S.w.drew.alloc (.cells (news.toArray++Builtin.zeroCells zv.cells (grownCap S.w m 0 T-m)) T)):=by
     have:=run_append_grow_src (P:=P) S.w t t2 ty T i zv hu hi hzv ads 0 0 [] hf0 xv m news hsr' (by omega) (by omega) (growslice_fits (by omega) (by rw[hby]; simpa using g6))
     simp only[Nat.zero_add,List.nil_append]at this
     exact this
    generalize hg:grownCap S.w m 0 T=gc at hr
    have hge:m≤gc:=by rw[←hg]; exact grownCap_ge _ _ _ _
    have hS':=sim_same hS (w':=S.w.drew) rfl rfl rfl rfl
    have hE':=ext_same (S:=S) (w':=S.w.drew) rfl rfl rfl rfl
    have hmv:=sim_move hS' (i:=i0) (o:=ob) (o':=⟨ob.cells++xs,ob.ty,ob.ver+1,true⟩) (us:=news) (Builtin.zeroCells zv.cells (gc-m)).toList ho (by simp) rfl
     (by simp only[hcl,List.nil_append]; exact hx3.ext hE') hgrow
    have hme:=ext_move (S:=⟨S.ρ,S.H,S.w.drew⟩) (i:=i0) (o:=ob) (o':=⟨ob.cells++xs,ob.ty,ob.ver+1,true⟩) (us:=news) (rest:=(Builtin.zeroCells zv.cells (gc-m)).toList) ho (by simp)
    refine⟨.slice (some ⟨S.w.heap.size,0,none⟩) m gc,_,hr.trans ?_,hE'.trans hme,hmv,?_,rfl⟩
    · rw[arr_app,<- hty]; rfl
    · simp only[Nat.zero_add]
      refine .own i0 0 _ sz _ _ _ _ (hself _) (by simp[hver]) hge (fun h=>by cases h) fun _ => ?_
      simp only[St.OwnAt,St.move,upd_same]
      refine .inr ⟨rfl,T,(news++(Builtin.zeroCells zv.cells (gc-m)).toList).length,?_,?_⟩
      · unfold World.shape?
        have h9:=heap_alloc_at S.w.drew (.cells (news++(Builtin.zeroCells zv.cells (gc-m)).toList).toArray ob.ty)
        simp only[World.size_drew]at h9 ⊢
        rw[h9]; simp[hty]
      · simp only[List.length_append,hx2,zeroCells_length,hzs]
        rw[←Nat.add_mul]
        have:m+(gc-m)=gc:=by omega
        rw[this]; simp
 | some b =>
  have h7:=hS.live i0 ob ho hl
  rw[hρ]at h7 h6
  obtain⟨us,rest,hh,hvr⟩:=h7
  have hblt:b<S.w.heap.size:=hS.lt ⟨i0,ob,ho,AO.own_live hl,hρ⟩
  have husl:us.length=n*sz:=by rw[hvr.1,hlen]
  by_cases hroom:n+m≤cap
  · -- there is room
    by_cases hm0:m=0
    · subst hm0
      have hxs:xs=[]:=List.eq_nil_of_length_eq_zero (by rw[←hx3.1,hx2]; simp)
      subst hxs
      have hn0:news=[]:=List.eq_nil_of_length_eq_zero (by rw[hx2]; simp)
      rw[hn0]at hsr'
      have hr:=run_append_nothing (P:=P) S.w t t2 ty T i hu hi ads n cap hcap xv hsr'
      obtain⟨hs1,hs2⟩:=sim_put hS (cells:=ob.cells++[]) (ver:=ob.ver+1) ho hl hρ (by omega) (us:=us) (rest:=rest) hh (by simp) (by simpa using hvr) hgrow (w':=S.w) (by
       have:S.w.heap.setIfInBounds b (.cells (us++rest).toArray ob.ty (0,0))=S.w.heap:=by
        apply Array.ext_getElem?
        intro j
        rw[Array.getElem?_setIfInBounds]
        by_cases h:b=j
        · subst h; rw[if_pos rfl,if_pos hblt,hh]
        · rw[if_neg h]
       rw[this])
      refine⟨.slice ads n cap,⟨S.ρ,S.H.set i0 ⟨ob.cells++[],ob.ty,ob.ver+1,true⟩,S.w⟩,hr,hs2,hs1,?_,rfl⟩
      refine .own i0 0 _ sz _ ads cap _ (hself _) (by simp[hver]) (by omega) (by simpa using hz) fun _ => ?_
      simpa[St.OwnAt,hρ]using h6
    · rcases h6 with h6 | ⟨h6,T',N,h8,h9⟩
      · omega
      subst h6
      have hN:N=us.length+rest.length:=by
       unfold World.shape? at h8; rw[hh]at h8; simp at h8; omega
      have hfit:n*sz+m*sz≤us.length+rest.length:=by
       have:(n+m)*sz≤cap*sz:=Nat.mul_le_mul_right _ hroom
       rw[Nat.add_mul]at this; omega
      have hr:=run_append_room_row (P:=P) S.w t t2 ty T i hu hi b n cap (us++rest).toArray (by rw[←hty]; exact hh) xv m news hsr' hroom
       (by rw[hx2,hsz]; simpa using hfit)
      rw[setRow_eq S.w b _ _ ob.ty (0,0) hh]at hr
      have hcells:((us++rest).toArray.toList.take (n*i.size)++news++(us++rest).toArray.toList.drop (n*i.size+news.length))=(us++news)++rest.drop (m*sz):=by
       rw[hsz,<- husl,hx2]
       simp[List.drop_append]
      rw[hcells]at hr
      obtain⟨hs1,hs2⟩:=sim_put hS (cells:=ob.cells++xs) (ver:=ob.ver+1) ho hl hρ (by omega) (us:=us++news) (rest:=rest.drop (m*sz)) hh (by simp[hx2]; omega) (hvr.append hx3) hgrow (w':=_) rfl
      refine⟨_,_,hr,hs2,hs1,?_,rfl⟩
      refine .own i0 0 _ sz _ _ cap _ (hself _) (by simp[hver]) hroom (fun h=>by cases h) fun _ => ?_
      simp only[St.OwnAt,hρ]
      exact .inr ⟨trivial,T',N,hs2.shape _ _ _ h8,h9⟩
  · -- a new row
    have hm0:m≠0:=by omega
    have holds:∀ j v,us[j]? = some v->S.w.cell? ((⟨b,0,none⟩:Addr).add j)=some v:=by
     intro j v hj
     have hadd:(⟨b,0,none⟩:Addr).add j=⟨b,j,none⟩:=by unfold Addr.add; split<;>simp_all
     rw[hadd]
     unfold World.cell?
     simp only[hh,Option.isSome_none,Bool.false_eq_true,if_false]
     simp[List.getElem?_append_left (getElem?_lt hj),hj]
    have hr:∃ bb:Addr,(ads=some bb∧∀ j v,us[j]? = some v->S.w.cell? (bb.add j)=some v)∨ads=none:=by
     cases ads with
     | none=>exact⟨default,.inr rfl⟩
     | some bb =>
      refine⟨bb,.inl ⟨rfl,?_⟩⟩
      rcases h6 with h6 | ⟨h6,_⟩
      · have:n=0:=by omega
        subst this
        have:us=[]:=List.eq_nil_of_length_eq_zero (by simpa using husl)
        subst this
        intro j v hj; simp at hj
      · cases h6; exact holds
    have hrun:∃ gc,n+m≤gc∧(Builtin.append_ #[t,t2] ty #[.slice ads n cap,xv]).run P S.w =
     .ok (.slice (some ⟨S.w.heap.size,0,none⟩) (n+m) gc) (S.w.drew.alloc (.cells ((us++news)++(Builtin.zeroCells zv.cells (gc-(n+m))).toList).toArray T)):=by
     have hfc:(Builtin.firstCells i.size n (.slice ads n cap)).run P S.w.drew=.ok us.toArray S.w.drew:=by
      obtain⟨bb,hr | hr⟩:=hr
      · obtain⟨rfl,hol⟩:=hr
        exact run_firstCells_some S.w.drew i.size n bb n cap us (by rw[husl,hsz]) (by simpa using hol)
      · subst hr
        have:n=0:=hz rfl
        subst this
        have hus:us=[]:=List.eq_nil_of_length_eq_zero (by simpa using husl)
        subst hus
        exact run_firstCells_none S.w.drew i.size 0 0 cap
     refine⟨grownCap S.w (n+m) cap T,grownCap_ge _ _ _ _,?_⟩
     rw[run_append_grow_src (P:=P) S.w t t2 ty T i zv hu hi hzv ads n cap us hfc xv m news hsr' (by omega) (by omega) (growslice_fits (by omega) (by rw[hby]; exact g6)),arr_app]
    obtain⟨gc,hge,hrun⟩:=hrun
    have hS':=sim_same hS (w':=S.w.drew) rfl rfl rfl rfl
    have hE':=ext_same (S:=S) (w':=S.w.drew) rfl rfl rfl rfl
    have hmv:=sim_move hS' (i:=i0) (o:=ob) (o':=⟨ob.cells++xs,ob.ty,ob.ver+1,true⟩) (us:=us++news) (Builtin.zeroCells zv.cells (gc-(n+m))).toList ho (by simp) rfl
     ((hvr.append hx3).ext hE') hgrow
    have hme:=ext_move (S:=⟨S.ρ,S.H,S.w.drew⟩) (i:=i0) (o:=ob) (o':=⟨ob.cells++xs,ob.ty,ob.ver+1,true⟩) (us:=us++news) (rest:=(Builtin.zeroCells zv.cells (gc-(n+m))).toList) ho (by simp)
    refine⟨.slice (some ⟨S.w.heap.size,0,none⟩) (n+m) gc,_,hrun.trans ?_,hE'.trans hme,hmv,?_,rfl⟩
    · simp[St.move,hty]
    · refine .own i0 0 _ sz _ _ _ _ (hself _) (by simp[hver]) hge (fun h=>by cases h) fun _ => ?_
      simp only[St.OwnAt,St.move,upd_same]
      refine .inr ⟨rfl,T,((us++news)++(Builtin.zeroCells zv.cells (gc-(n+m))).toList).length,?_,?_⟩
      · unfold World.shape?
        have h9:=heap_alloc_at S.w.drew (.cells ((us++news)++(Builtin.zeroCells zv.cells (gc-(n+m))).toList).toArray ob.ty)
        simp only[World.size_drew]at h9 ⊢
        rw[h9]; simp[hty]
      · simp only[List.length_append,hx2,husl,zeroCells_length,hzs]
        rw[←Nat.add_mul,<- Nat.add_mul]
        have:n+m+(gc-(n+m))=gc:=by omega
        rw[this]; simp
theorem ext_blk (o:Obj):Ext S.H.length S ⟨S.ρ,S.H,S.w.drew.alloc o⟩ where
 obj:=fun i p _ h=>⟨p,h,Nat.le_refl _,fun _=>rfl⟩
 imm:=fun k hk hn=>⟨heap_alloc_lt _ _ hk,hn⟩
 size:=by simp
 shape:=fun k T m h=>shape_alloc _ _ h
 loops:=fun k r h=>loops_alloc _ _ h
 os:=rfl
 tape:=rfl
 output:=rfl
theorem sim_blk (h:Sim S) (o:Obj):Sim ⟨S.ρ,S.H,S.w.drew.alloc o⟩ :=
 h.step (ext_blk o) (Nat.le_refl _) (fun i p hp=>.inl ⟨hp,rfl,fun b hb hl=>heap_alloc_lt _ _ (h.lt ⟨i,p,hp,hl,hb⟩)⟩) fun i j o o' b hi hj hl hl' h1 h2=>h.inj i j o o' b hi hj hl hl' h1 h2
theorem blk_bytes (hS:Sim S) (s:ByteArray) (cap:Nat) (T:TypeId) (f:Nat×Nat) (hc:s.size≤cap):Ext S.H.length S ⟨S.ρ,S.H,S.w.drew.alloc (.cells (bytesRow s cap) T f)⟩∧Sim ⟨S.ρ,S.H,S.w.drew.alloc (.cells (bytesRow s cap) T f)⟩ ∧
 VR ⟨S.ρ,S.H,S.w.drew.alloc (.cells (bytesRow s cap) T f)⟩ (.slc (sbyts s) s.size) (.slice (some ⟨S.w.heap.size,0,none⟩) s.size cap):=by
 refine⟨ext_blk _,sim_blk hS _,.slc _ _ _ _ (s.data.toList.map fun b=>.int .u8 b.toNat) hc (by simp[sbyts]) ⟨?_,fun _ hrw => ?_,fun _ _=>.inr (by rw[List.all_eq_true]; intro u hu; obtain⟨b,_,rfl⟩:=List.mem_map.1 hu; rfl)⟩ ?_⟩
 · intro j u hj
   rw[List.getElem?_map,Option.map_eq_some_iff]at hj
   obtain⟨b,hb,rfl⟩:=hj
   have hlt:j<s.data.size:=by have:=getElem?_lt hb; simpa using this
   have h1:=bytesRow_at s cap j hlt
   have h2:=heap_alloc_at S.w.drew (.cells (bytesRow s cap) T f)
   have hb':s.data[j]=b:=by
    have h3:s.data[j]? = some b:=by simpa using hb
    rw[Array.getElem?_eq_getElem hlt]at h3; exact Option.some.inj h3
   rw[hb']at h1
   have e:((⟨S.w.heap.size,0,none⟩:Addr).add j)=⟨S.w.heap.size,j,none⟩:=by simp[Addr.add]; exact fun h=>h.symm
   rw[e]
   unfold World.cell?
   rw[show S.w.drew.heap.size=S.w.heap.size from rfl]at h2
   simp only[h2]
   exact h1
 · obtain⟨i,o,ho,hl,hρ⟩:=hrw
   have:S.w.heap.size<S.w.heap.size:=hS.lt ⟨i,o,ho,hl,hρ⟩
   omega
 · intro j u v h1 h2
   simp only[sbyts,List.getElem?_map,Option.map_eq_some_iff]at h1 h2
   obtain⟨b,hb,rfl⟩:=h1
   obtain⟨b',hb',rfl⟩:=h2
   rw[hb]at hb'; cases hb'
   exact .val _
theorem eff_sound (hS:Sim S) (he:EnvR S e a.tmps) {o:Oper} {i:E} (hc:chkE P o.op i=true) (hcall:i.isCall=false) {K:SV->List AO->Prop} (hs:xe i e.ev S.H K) :
 Eff P S a o K:=by
 generalize hop:o.op=op at hc
 cases i with
 | alc T z =>
  simp only[chkE]at hc
  split at hc
  · rw[Bool.and_eq_true,beq_iff_eq]at hc
    obtain⟨rfl,hz⟩:=hc
    obtain⟨zv,hrun,hv,hcl⟩:=zeroB_spec (S:=S) hz
    refine eff_ptr hS hv (fun s h=>(hcl s h).1) ?_ hs
    simp[execOp,hop,Instr.alloc,hrun,newVar,newRow]
  · cases hc
 | box T x' =>
  simp only[chkE]at hc
  split at hc
  · rw[Bool.and_eq_true,beq_iff_eq]at hc
    obtain⟨rfl,h1⟩:=hc
    obtain⟨g1,g2,g3⟩:=hs
    obtain⟨us,h2,h3⟩:=((chkOd_spec h1 he).ug g1).flat g2
    refine eff_ptr hS h3 g2 ?_ g3
    simp[execOp,hop,Instr.box,newVar,newRow,h2]
  · cases hc
 | bsl T sz len z parts =>
  simp only[chkE]at hc
  split at hc
  · rename_i t len' ps
    simp only[Bool.and_eq_true,beq_iff_eq,decide_eq_true_eq]at hc
    obtain⟨⟨⟨⟨⟨⟨h1,h2⟩,rfl⟩,h4⟩,h5⟩,h6⟩,h7⟩:=hc
    obtain⟨g1,g2,g3⟩:=hs
    have hu:=slTB_spec h1
    obtain⟨zv,hrun,hv,hcl⟩:=zeroB_spec (S:=S) h4
    obtain⟨hl,hq⟩:=bslB_spec (e:=e) h7 he
    have hzl:zv.cells.toList.length=sz:=by rw[hv.1,h5]
    have hvz:=hv.zeros len'
    obtain⟨cells,hf,hvf⟩:=fill_sound (S:=S) (fun i=>some (i*sz,sz)) (ps.toList.map fun p=>(p.1,a.eval p.2)) (parts.map fun p=>(p.1*sz,e.ev p.2))
     (List.replicate len' z).flatten (List.replicate len' zv.cells.toList).flatten hvz (by simpa using hl) (by
      intro j p q hpj hqj
      rw[List.getElem?_map]at hpj hqj
      cases hp0:ps.toList[j]? with
      | none=>rw[hp0]at hpj; cases hpj
      | some p0 =>
       cases hq0:parts[j]? with
       | none=>rw[hq0]at hqj; cases hqj
       | some q0 =>
        rw[hp0]at hpj; rw[hq0]at hqj
        simp at hpj hqj
        subst hpj hqj
        obtain⟨k1,k2⟩:=hq j p0 q0 hp0 hq0
        obtain⟨k3,k4⟩:=g1 q0 (List.mem_of_getElem? hq0)
        exact⟨sz,by simp[k1],k3,by rw[length_zeros,h5]; exact k4,k2⟩)
    have hlen:cells.length=len'*sz:=by
     rw[hvf.1]
     have:∀ (qs:List (Nat×SV)) (z:List SV),(∀ q∈qs,q.1+q.2.ug.flat.length≤z.length)->(fillS z qs).length=z.length:=by
      intro qs
      induction qs with
      | nil=>intro z _; rfl
      | cons q r ih =>
       intro z hz
       obtain⟨off,v⟩:=q
       have h8:=hz (off,v) (by simp)
       simp only[fillS]
       have h9:(z.take off++v.ug.flat++z.drop (off+v.ug.flat.length)).length=z.length:=by simp at h8 ⊢; omega
       rw[ih _ (by intro q hq; rw[h9]; exact hz q (by simp[hq]))]
       exact h9
     rw[this,length_zeros,h5]
     intro q hq
     simp only[List.mem_map]at hq
     obtain⟨p,hp,rfl⟩:=hq
     obtain⟨k3,k4⟩:=g1 p hp
     have k5:(e.ev p.2).ug.flat.length=sz:=by
      unfold partOk at k3
      split at k3
      · rename_i l hl; rw[hl]; exact k3.1
      · rename_i x hx
        unfold SV.flat; split
        · rename_i l hl; exact absurd hl (hx l)
        · simp[k3.1]
     rw[length_zeros,h5,k5]; exact k4
    refine eff_slice (rest:=[]) (cap:=len') hS hvf g2 (Nat.le_refl _) (by simp[hlen]) ?_ g3
    simp only[execOp,hop,Instr.buildSlice,Sem.run_bind,run_underlying hu,Result.andThen_ok,run_sizeOf' h2]
    rw[if_neg (by omega)]
    have hzz:(Array.range (len'*sz)).map (fun x=>zv.cells[x % zv.cells.size]!)=(List.replicate len' zv.cells.toList).flatten.toArray:=by
     have:=made_eq (z:=zv.cells.toList) len'
     rw[hzl]at this
     rw[←this]; simp[madeCells]
    have e1:(ps.map fun x=>(x.1,a.eval x.2)).toList=ps.toList.map fun p=>(p.1,a.eval p.2):=by simp
    by_cases h0:len'*sz=0
    · have hz0:(List.replicate len' zv.cells.toList).flatten=[]:=by
       apply List.eq_nil_of_length_eq_zero; rw[length_zeros,hzl]; exact h0
      rw[hz0]at hf
      simp only[h0,if_true,Sem.run_pure,Result.andThen_ok,Array.range_zero',Array.map_empty,e1,hf]
      simp[newRow]
    · simp only[h0,if_false,Sem.run_bind,hrun,Result.andThen_ok,Sem.run_pure,hzz,e1,hf]
      simp[newRow]
  · cases hc
 | app T sz bytes s x =>
  simp only[chkE]at hc
  split at hc
  · rename_i as ts
    split at hc
    · rename_i s' x' t t' ha ht
      simp only[Bool.and_eq_true,beq_iff_eq,decide_eq_true_eq]at hc
      obtain⟨⟨⟨⟨⟨rfl,h1⟩,h2⟩,h3⟩,h4⟩,h5⟩:=hc
      obtain⟨g1,g2,g3,g4,g5,g6,g7,g8⟩:=hs
      have ha':as = #[s',x']:=by rw[←ha]
      have ht':ts = #[t,t]:=by rw[←ht]
      subst ha' ht'
      obtain⟨adx,capx,news,hx1,hx2,hx3,hx4,hx5⟩:=VR.els hS ((chkOd_spec h2 he).ug g2) g3 g4
      have hs0:=(chkOd_spec h1 he).ug g1
      split at g8
      · rename_i i0 n sz' ver hown
        rw[hown]at g6 g7 hs0
        simp only[SV.slen]at g6 g7
        obtain⟨rfl,⟨ob,ho,hl,hver,hty,hlen⟩,hK⟩:=g8
        rw[setObj_some ho]at hK
        obtain⟨ads,cap,hsv,hcap,hz,hat⟩:=hs0.own_inv ho hver
        obtain⟨v',S',hr,hext,hsim,hvr,hH⟩:=append_src (ty:=o.type) hS (slTB_spec h3) h4 ho hl hver hty hlen hcap hz hat (src_slice (capx:=capx) (slTB_spec h3) hx2 hx4 hx5 (hx3.oneCells g5)) hx3 g5 g6 g7
        refine⟨v',S',_,.inl ?_,hext,hsim,hvr,?_⟩
        · have h9:(execOp a.eval o).run P S.w=((Builtin.append_ #[t,t] o.type #[.slice ads n cap,.slice adx (e.ev x).ug.slen capx]).run P S.w).andThen fun v w'=>.ok (.value v) w':=by
           simp[execOp,hop,resolve,invoke,builtin,hsv,hx1]
          rw[h9,hr]; rfl
        · rw[hH]; exact hK
      · obtain⟨hnil,hK⟩:=g8
        have hsv:=hs0.isNil hnil
        have hn0:(e.ev s).ug.slen=0:=by
         generalize (e.ev s).ug=w at hnil
         cases w<;>simp[SV.isNil]at hnil<;>rfl
        rw[hn0]at g6 g7
        have hap:=append_src (ty:=o.type) (i0:=S.H.length) (n:=0) (ver:=0) (ob:=⟨[],T,0,true⟩) (ads:=none) (cap:=0) (sim_newNil hS T) (slTB_spec h3) h4 (by simp[St.newNil]) rfl rfl rfl (by simp) (Nat.le_refl _) (fun _=>rfl)
         (by simp[St.OwnAt,St.newNil,upd_same]) (src_slice (w:=(S.newNil T).w) (capx:=capx) (slTB_spec h3) hx2 hx4 hx5 (hx3.oneCells g5)) (hx3.ext (ext_newNil S T)) g5 g6 g7
        obtain⟨v',S',hr,hext,hsim,hvr,hH⟩:=hap
        have hl0:S.H.length≤(S.newNil T).H.length:=by simp[St.newNil]
        refine⟨v',S',_,.inl ?_,(ext_newNil S T).trans (hext.mono hl0),hsim,hvr,?_⟩
        · have h9:(execOp a.eval o).run P S.w=((Builtin.append_ #[t,t] o.type #[.slice none 0 0,.slice adx (e.ev x).ug.slen capx]).run P S.w).andThen fun v w'=>.ok (.value v) w':=by
           simp[execOp,hop,resolve,invoke,builtin,hsv,hx1]
          have hr':(Builtin.append_ #[t,t] o.type #[.slice none 0 0,.slice adx (e.ev x).ug.slen capx]).run P S.w=.ok v' S'.w:=hr
          rw[h9,hr']; rfl
        · rw[hH]
          have:(S.newNil T).H.set S.H.length ((⟨[],T,0,true⟩:AO).grow ((e.ev x).ug.els S.H sz))=S.H++[⟨(e.ev x).ug.els S.H sz,T,1,true⟩]:=by
           simp[St.newNil,AO.grow]
          rw[this,Nat.zero_add]; exact hK
    · cases hc
  · cases hc
 | st n p x =>
  simp only[chkE]at hc
  split at hc
  · rename_i t p' x'
    simp only[Bool.and_eq_true]at hc
    obtain⟨⟨h1,h2⟩,h3⟩:=hc
    obtain⟨g1,g2,g3,g4,g5,g6⟩:=hs
    obtain⟨us,hx1,hx2⟩:=((chkOd_spec h2 he).ug g2).flat g3
    have hp:=(chkOd_spec h1 he).ug g1
    split at g6
    · rename_i i0 off l0 s0 ver k hpt
      rw[hpt]at hp
      obtain⟨g6,hK⟩:=g6
      have hk0:off+k<(objCells S.H i0 ver).length:=by omega
      obtain⟨ob,b,us0,rest,u,ho,hl,hver,hρ,hh,hvr,_⟩:=hS.read (List.getElem?_eq_getElem hk0)
      have hob:objCells S.H i0 ver=ob.cells:=by rw[←hver]; exact objCells_of ho hl
      rw[hob]at g6
      rw[setObj_some ho]at hK
      have husl:us.length=n:=by rw[hx2.1,g4]
      have hus0:us0.length=ob.cells.length:=hvr.1
      generalize hpv:a.eval p'=pv at hp
      cases hp with
      | ptrO _ _ _ _ _ _ ad o' ho' hvl hat =>
       rw[ho]at ho'; cases ho'
       obtain⟨b',hb',had⟩:=hat hver
       rw[hρ]at hb'; cases hb'
       subst had
       have hst:=run_storeCells_at P b (off+k) ob.ty us 0 (us0++rest).toArray S.w hh (by simp; omega) (hx2.oneCells g3)
       simp only[Nat.add_zero]at hst
       rw[setRow_eq S.w b _ _ ob.ty (0,0) hh]at hst
       have hcells:((us0++rest).toArray.toList.take (off+k)++us++(us0++rest).toArray.toList.drop (off+k+us.length))=(us0.take (off+k)++us++us0.drop (off+k+us.length))++rest:=by
        have e1:off+k≤us0.length:=by omega
        have e2:off+k+us.length≤us0.length:=by omega
        simp[List.take_append_of_le_length e1,List.drop_append_of_le_length e2]
       rw[hcells]at hst
       have hv':VRs S (ob.cells.take (off+k)++(e.ev x).ug.flat++ob.cells.drop (off+k+(e.ev x).ug.flat.length)) (us0.take (off+k)++us++us0.drop (off+k+us.length)):=by
        have:us.length=(e.ev x).ug.flat.length:=hx2.1
        rw[this]
        exact((hvr.take _).append hx2).append (hvr.drop _)
       have hput:ob.put (off+k) (e.ev x).ug.flat=⟨ob.cells.take (off+k)++(e.ev x).ug.flat++ob.cells.drop (off+k+(e.ev x).ug.flat.length),ob.ty,ob.ver,true⟩:=by
        cases ob; simp[AO.put]at *; exact hl
       rw[hput]at hK
       obtain⟨hs1,hs2⟩:=sim_put hS (cells:=ob.cells.take (off+k)++(e.ev x).ug.flat++ob.cells.drop (off+k+(e.ev x).ug.flat.length)) (ver:=ob.ver) ho hl hρ (Nat.le_refl _)
        (us:=us0.take (off+k)++us++us0.drop (off+k+us.length)) (rest:=rest) hh (by simp; omega) hv' (by
         intro s hs
         simp only[List.mem_append]at hs
         rcases hs with (hs | hs) | hs
         · exact hS.belL ho hl s (List.mem_of_mem_take hs)
         · exact hx2.unders g3 s hs
         · exact hS.belL ho hl s (List.mem_of_mem_drop hs)) (w':=_) rfl
       refine⟨undef,_,_,.inr ⟨?_,rfl⟩,hs2,hs1,.val _,hK⟩
       simp only[execOp,hop,hpv,Instr.storeAt,Instr.sureAddr,Sem.run_bind,Sem.run_pure,Result.andThen_ok,storeVar,run_sizeOf' h3,hx1]
       rw[if_neg (by simp[husl])]
       simp only[hst,Result.andThen_ok]
    · exact g6.elim
  · cases hc
 | stw ws n p x =>
  simp only[chkE]at hc
  split at hc
  · rename_i t p' x'
    simp only[Bool.and_eq_true]at hc
    obtain⟨⟨h1,h2⟩,h3⟩:=hc
    obtain⟨g1,g2,g3,g4,g5,g6⟩:=hs
    obtain⟨us,hx1,hx2⟩:=((chkOd_spec h2 he).ug g2).flat g3
    have hp:=(chkOd_spec h1 he).ug g1
    split at g6
    · rename_i i0 off l0 s0 ver k hpt
      rw[hpt]at hp
      obtain⟨g6,hK⟩:=g6
      have hk0:off+k<(objCells S.H i0 ver).length:=by omega
      obtain⟨ob,b,us0,rest,u,ho,hl,hver,hρ,hh,hvr,_⟩:=hS.read (List.getElem?_eq_getElem hk0)
      have hob:objCells S.H i0 ver=ob.cells:=by rw[←hver]; exact objCells_of ho hl
      rw[hob]at g6
      rw[setObj_some ho]at hK
      have husl:us.length=n:=by rw[hx2.1,g4]
      have hus0:us0.length=ob.cells.length:=hvr.1
      generalize hpv:a.eval p'=pv at hp
      cases hp with
      | ptrO _ _ _ _ _ _ ad o' ho' hvl hat =>
       rw[ho]at ho'; cases ho'
       obtain⟨b',hb',had⟩:=hat hver
       rw[hρ]at hb'; cases hb'
       subst had
       have hst:=run_storeCells_at P b (off+k) ob.ty us 0 (us0++rest).toArray S.w hh (by simp; omega) (hx2.oneCells g3)
       simp only[Nat.add_zero]at hst
       rw[setRow_eq S.w b _ _ ob.ty (0,0) hh]at hst
       have hcells:((us0++rest).toArray.toList.take (off+k)++us++(us0++rest).toArray.toList.drop (off+k+us.length))=(us0.take (off+k)++us++us0.drop (off+k+us.length))++rest:=by
        have e1:off+k≤us0.length:=by omega
        have e2:off+k+us.length≤us0.length:=by omega
        simp[List.take_append_of_le_length e1,List.drop_append_of_le_length e2]
       rw[hcells]at hst
       have hv':VRs S (ob.cells.take (off+k)++(e.ev x).ug.flat++ob.cells.drop (off+k+(e.ev x).ug.flat.length)) (us0.take (off+k)++us++us0.drop (off+k+us.length)):=by
        have:us.length=(e.ev x).ug.flat.length:=hx2.1
        rw[this]
        exact((hvr.take _).append hx2).append (hvr.drop _)
       have hput:ob.put (off+k) (e.ev x).ug.flat=⟨ob.cells.take (off+k)++(e.ev x).ug.flat++ob.cells.drop (off+k+(e.ev x).ug.flat.length),ob.ty,ob.ver,true⟩:=by
        cases ob; simp[AO.put]at *; exact hl
       rw[hput]at hK
       obtain⟨hs1,hs2⟩:=sim_put hS (cells:=ob.cells.take (off+k)++(e.ev x).ug.flat++ob.cells.drop (off+k+(e.ev x).ug.flat.length)) (ver:=ob.ver) ho hl hρ (Nat.le_refl _)
        (us:=us0.take (off+k)++us++us0.drop (off+k+us.length)) (rest:=rest) hh (by simp; omega) hv' (by
         intro s hs
         simp only[List.mem_append]at hs
         rcases hs with (hs | hs) | hs
         · exact hS.belL ho hl s (List.mem_of_mem_take hs)
         · exact hx2.unders g3 s hs
         · exact hS.belL ho hl s (List.mem_of_mem_drop hs)) (w':=_) rfl
       refine⟨undef,_,_,.inr ⟨?_,rfl⟩,hs2,hs1,.val _,hK⟩
       simp only[execOp,hop,hpv,Instr.storeAt,Instr.sureAddr,Sem.run_bind,Sem.run_pure,Result.andThen_ok,storeVar,run_sizeOf' h3,hx1]
       rw[if_neg (by simp[husl])]
       simp only[hst,Result.andThen_ok]
    · exact g6.elim
  · cases hc
 | nil T sz x =>
  obtain⟨g1,g2,g3⟩:=hs
  have hv:∀ (x':Operand),chkOd x' x=true->a.eval x'=.slice none 0 0:=by
   intro x' h
   exact((chkOd_spec h he).ug g1).isNil g2
  have main:(execOp a.eval o).run P S.w=.ok (.value (.slice none 0 0)) S.w:=by
   simp only[chkE]at hc
   split at hc
   · simp[execOp,hop,hv _ hc]
   · simp[execOp,hop,hv _ hc]
   · cases hc
  refine⟨_,S.newNil T,_,.inl main,ext_newNil S T,sim_newNil hS T,?_,g3⟩
  refine .own _ 0 0 sz 0 none 0 ⟨[],T,0,true⟩ (by simp[St.newNil]) (Nat.le_refl _) (Nat.le_refl _) (fun _=>rfl) fun _ => ?_
  simp[St.OwnAt,St.newNil,upd_same]
 | aps T s x =>
  simp only[chkE]at hc
  split at hc
  · rename_i as ts
    split at hc
    · rename_i s' x' t t' ha ht
      simp only[Bool.and_eq_true]at hc
      obtain⟨⟨⟨⟨h1,h2⟩,h3⟩,h4⟩,h5⟩:=hc
      split at h5
      · rename_i ht2
        obtain⟨g1,g2,g3,g8⟩:=hs
        have ha':as = #[s',x']:=by rw[←ha]
        have ht':ts = #[t,t']:=by rw[←ht]
        subst ha' ht'
        have hx1:=(chkOd_spec h2 he).isS g2
        have hs0:=(chkOd_spec h1 he).ug g1
        have hsrc:∀ w,Src P 1 t' (.string (e.ev x).str) (e.ev x).str.size (byteCells (e.ev x).str) w:=fun w=>Src.ofString w ht2 _
        have hx3:∀ S:St,VRs S (sbyts (e.ev x).str) (byteCells (e.ev x).str):=fun S=>by
         refine⟨by simp[sbyts,byteCells],fun j a b h6 h7 => ?_⟩
         simp only[sbyts,byteCells,List.getElem?_map,Option.map_eq_some_iff]at h6 h7
         obtain⟨c,h6,rfl⟩:=h6
         obtain⟨d,h7,rfl⟩:=h7
         rw[h6]at h7; cases h7
         exact .val _
        have g5:cellsOk (sbyts (e.ev x).str):=by
         intro c hc
         simp only[sbyts,List.mem_map]at hc
         obtain⟨b,_,rfl⟩:=hc
         rfl
        split at g8
        · rename_i i0 n sz' ver hown
          rw[hown]at g3 hs0
          simp only[SV.slen]at g3
          obtain⟨rfl,⟨ob,ho,hl,hver,hty,hlen⟩,hK⟩:=g8
          rw[setObj_some ho]at hK
          obtain⟨ads,cap,hsv,hcap,hz,hat⟩:=hs0.own_inv ho hver
          obtain⟨v',S',hr,hext,hsim,hvr,hH⟩:=append_src (ty:=o.type) hS (slTB_spec h3) h4 ho hl hver hty hlen hcap hz hat (hsrc _) (hx3 S) g5 (by omega) g3
          refine⟨v',S',_,.inl ?_,hext,hsim,hvr,?_⟩
          · have h9:(execOp a.eval o).run P S.w=((Builtin.append_ #[t,t'] o.type #[.slice ads n cap,.string (e.ev x).str]).run P S.w).andThen fun v w'=>.ok (.value v) w':=by
             simp[execOp,hop,resolve,invoke,builtin,hsv,hx1]
            rw[h9,hr]; rfl
          · rw[hH]; exact hK
        · obtain⟨hnil,hK⟩:=g8
          have hsv:=hs0.isNil hnil
          have hn0:(e.ev s).ug.slen=0:=by
           generalize (e.ev s).ug=w at hnil
           cases w<;>simp[SV.isNil]at hnil<;>rfl
          rw[hn0]at g3
          have hap:=append_src (ty:=o.type) (i0:=S.H.length) (n:=0) (ver:=0) (ob:=⟨[],T,0,true⟩) (ads:=none) (cap:=0) (sim_newNil hS T) (slTB_spec h3) h4 (by simp[St.newNil]) rfl rfl rfl (by simp) (Nat.le_refl _) (fun _=>rfl)
           (by simp[St.OwnAt,St.newNil,upd_same]) (hsrc _) (hx3 _) g5 (by omega) g3
          obtain⟨v',S',hr,hext,hsim,hvr,hH⟩:=hap
          have hl0:S.H.length≤(S.newNil T).H.length:=by simp[St.newNil]
          refine⟨v',S',_,.inl ?_,(ext_newNil S T).trans (hext.mono hl0),hsim,hvr,?_⟩
          · have h9:(execOp a.eval o).run P S.w=((Builtin.append_ #[t,t'] o.type #[.slice none 0 0,.string (e.ev x).str]).run P S.w).andThen fun v w'=>.ok (.value v) w':=by
             simp[execOp,hop,resolve,invoke,builtin,hsv,hx1]
            have hr':(Builtin.append_ #[t,t'] o.type #[.slice none 0 0,.string (e.ev x).str]).run P S.w=.ok v' S'.w:=hr
            rw[h9,hr']; rfl
          · rw[hH]
            have:(S.newNil T).H.set S.H.length ((⟨[],T,0,true⟩:AO).grow (sbyts (e.ev x).str))=S.H++[⟨sbyts (e.ev x).str,T,1,true⟩]:=by
             simp[St.newNil,AO.grow]
            rw[this,Nat.zero_add]; exact hK
      · cases h5
    · cases hc
  · cases hc
 | sby x =>
  obtain⟨g1,g2⟩:=hs
  simp only[chkE]at hc
  split at hc
  · rename_i src dst x'
    rw[Bool.and_eq_true,Bool.and_eq_true]at hc
    obtain⟨⟨h1,h2⟩,h3⟩:=hc
    split at h2
    · rename_i hu
      split at h3
      · rename_i el hd
        split at h3
        · rename_i hel
          have hv:=(chkOd_spec h1 he).isS g1
          have hrun:=run_bytes_of_string (P:=P) S.w src dst el (e.ev x).str hu hd hel
          obtain⟨he1,hs1,hv1⟩:=blk_bytes hS (e.ev x).str (grownCap S.w (e.ev x).str.size 0 el) el ((bytesRow (e.ev x).str (grownCap S.w (e.ev x).str.size 0 el)).size,(bytesRow (e.ev x).str (grownCap S.w (e.ev x).str.size 0 el)).size+1) (grownCap_ge _ _ _ _)
          refine⟨_,⟨S.ρ,S.H,_⟩,_,.inl ?_,he1,hs1,hv1,g2⟩
          simp[execOp,hop,hv,hrun]
        · cases h3
      · cases h3
    · cases h2
  · cases hc
 | call f args=>cases hcall
 | pan x=>cases hcall
 | mkm T =>
  simp only[chkE]at hc
  have hrun:(execOp a.eval o).run P S.w=.ok (.value (.map (some S.w.heap.size))) (S.w.alloc (.map #[] 0)):=by
   split at hc
   · simp[execOp,hop,Instr.makeMap,Result.andThen]
   · rename_i T' k n
     rw[Bool.and_eq_true,beq_iff_eq]at hc
     obtain⟨rfl,h2⟩:=hc
     split at h2
     · rename_i kt et hu
       simp[execOp,hop,Instr.makeMap,run_underlying hu,asInt,asIntOf,Result.andThen,eval_const]
     · cases h2
   · cases hc
  refine⟨.map (some S.w.heap.size),S.newSp (.map #[] 0) ⟨[.mk []],T,0,false⟩,.mp S.H.length 0,.inl ?_,ext_newSp _ _,sim_newSp hS (m:=.mk []) (us:=[]) ⟨rfl,rfl⟩ (VRs.nil S),?_,hs⟩
  · rw[hrun]; rfl
  · exact .mp _ _ _ _ (by simp[St.newSp]; rfl) (Nat.le_refl _) fun _=>by simp only[St.newSp,upd_same]
 | mup kk m' k' v' =>
  simp only[chkE]at hc
  have hop2:∃ t m k v,(op=.mapUpdate t m k v∨op=.insert t m k v)∧chkOd m m'=true∧chkOd k k'=true∧chkOd v v'=true∧mapKB P t kk=true:=by
   split at hc
   · rename_i t m k v
     simp only[Bool.and_eq_true]at hc
     exact⟨t,m,k,v,.inl rfl,hc.1.1.1,hc.1.1.2,hc.1.2,hc.2⟩
   · rename_i t m k v
     simp only[Bool.and_eq_true]at hc
     exact⟨t,m,k,v,.inr rfl,hc.1.1.1,hc.1.1.2,hc.1.2,hc.2⟩
   · cases hc
  obtain⟨t,m,k,v,hopv,h1,h2,h3,h4⟩:=hop2
  obtain⟨kt,et,hu,hk,hzz⟩:=mapKB_spec h4
  obtain⟨g1,g2,g3,g4⟩:=hs
  have k1:=(chkOd_spec h1 he).ug g1
  obtain⟨k2,k3⟩:=(chkOd_spec h2 he).isK g2
  have k4:=(chkOd_spec h3 he).ug g3
  split at g4
  · rename_i i ver x hmp hmo
    obtain⟨g5,g7,g6⟩:=g4
    rw[hmp]at k1 hmo
    generalize hmv:a.eval m=mv at k1
    cases k1 with
    | mp _ _ l o' ho hv hat =>
    simp only[SV.mapOf,ho]at hmo
    split at hmo
    · rename_i hcond
      split at hmo
      · rename_i ks vs hcells
        cases hmo
        have hoe:o'=⟨.mk ks::vs,o'.ty,o'.ver,false⟩:=by
         obtain⟨c,ty,vv,lv⟩:=o'
         simp only at hcells hcond ⊢
         rw[hcells,hcond.1]
        have ho2:S.H[i]? = some ⟨.mk ks::vs,o'.ty,o'.ver,false⟩:=by rw[ho]; congr 1
        obtain⟨l',es,cl,q1,q2,q3,q4⟩:=hS.map ho2
        rw[hat hcond.2]at q1; cases q1
        have hρ:=hat hcond.2
        subst q3
        have hck:=check_all (P:=P) (w:=S.w) hk k3 false
        rw[←k2]at g7
        have key:∃ x',(Instr.mapUpdate t (.map (some l)) (a.eval k) (a.eval v)).run P S.w=.ok () (S.w.putObj l x')∧(∃ es2 cl2,x'=Obj.map es2 cl2) ∧
         ∃ us,SpR (.mk (msetK (a.eval k) (es.toList.map (·.key)))) x' us∧VRs S (msetV (a.eval k) (e.ev v').ug (es.toList.map (·.key)) vs) us:=by
         rcases mset_all hk hzz hS k3 k4 g5 g7 q4 with ⟨r1,r2,r3⟩ | ⟨j,en,r1,r2,r3,r4,r5⟩
         · refine⟨.map (es.push ⟨a.eval k,a.eval v,cl⟩) (cl+1),?_,⟨_,_,rfl⟩,_,⟨?_,rfl⟩,?_⟩
           · have hfk:=r1
             simp[Instr.mapUpdate,run_underlying hu,Go.MapKept.run_getObj_map q2,hck,hfk,Go.MapKept.run_setObj_map _ q2,Result.andThen,World.putObj]
           · rw[r2]; simp
           · simpa using r3
         · have hfk:=r1
           have hj:es[j]? = some en:=by simpa using r2
           have hjl:j<es.size:=(Array.getElem?_eq_some_iff.1 hj).1
           refine⟨.map (es.modify j fun e=>{ e with key:=a.eval k,val:=a.eval v }) cl,?_,⟨_,_,rfl⟩,_,⟨?_,rfl⟩,?_⟩
           · have hks:=stays_all (P:=P) (w:=S.w) k3
             simp[Instr.mapUpdate,run_underlying hu,Go.MapKept.run_getObj_map q2,hck,hfk,hj,r3,hks,Go.MapKept.run_setObj_map _ q2,Result.andThen,World.putObj]
           · rw[r4]
             apply List.ext_getElem?
             intro n
             simp only[List.getElem?_map,Array.getElem?_toList,Array.getElem?_modify]
             by_cases hn:j=n
             · subst hn; rw[if_pos rfl,hj]; simp[r3]
             · rw[if_neg hn]
           · have e1:(es.modify j fun e=>{ e with key:=a.eval k,val:=a.eval v }).toList.map (·.val)=(es.toList.map (·.val)).set j (a.eval v):=by
              apply List.ext_getElem?
              intro n
              simp only[List.getElem?_map,Array.getElem?_toList,Array.getElem?_modify,List.getElem?_set]
              by_cases hn:j=n
              · subst hn; simp[hj,hjl]
              · rw[if_neg hn,if_neg hn]
             rw[e1]; exact r5
        obtain⟨x',hrun,hx',us,hsp,hvs⟩:=key
        have hne:(⟨.mk (es.toList.map (·.key))::vs,o'.ty,o'.ver,false⟩:AO).cells≠[]:=by simp
        obtain⟨he1,he2⟩:=turn_sp hS ho2 rfl hne hρ q2 (.inr ⟨es,cl,rfl⟩) (fun r h=>by cases h) (o':=⟨.mk (msetK (a.eval k) (es.toList.map (·.key)))::msetV (a.eval k) (e.ev v').ug (es.toList.map (·.key)) vs,o'.ty,o'.ver,false⟩) rfl (Nat.le_refl _)
         (.inr ⟨_,us,_,rfl,hsp,hvs⟩)
        refine⟨undef,_,.val undef,.inr ⟨?_,rfl⟩,he1,he2,.val _,?_⟩
        · rcases hopv with rfl | rfl<;>simp[execOp,hop,hmv,hrun]
        · rw[setObj_some ho]at g6
          rw[←k2]at g6
          have e3:({ o' with cells:=.mk (msetK (a.eval k) (es.toList.map (·.key)))::msetV (a.eval k) (e.ev v').ug (es.toList.map (·.key)) vs }:AO)=⟨.mk (msetK (a.eval k) (es.toList.map (·.key)))::msetV (a.eval k) (e.ev v').ug (es.toList.map (·.key)) vs,o'.ty,o'.ver,false⟩:=by
           rw[hoe]
          rw[e3]at g6
          exact g6
      · cases hmo
    · cases hmo
  · exact g4.elim
end
end Go.Ab
namespace Go.Ab
def Fr (ro:Option Nat):Fence:={ fn:=fun _=>True,depth:=none,alive:=false,round:=ro }
theorem fr_room (ro:Option Nat) (n:Nat):(Fr ro).room n:=fun _ h=>by simp[Fr]at h
theorem fr_one {ro:Option Nat} {n:Nat}:(Fr ro).depth.isSome=true->1≤n:=fun h=>by simp[Fr]at h
def _root_.Go.Code.wq (ro:Option Nat) (P:Program) (c:Code) (Q:Exit->Act->World->Prop) (a:Act) (w:World):Prop:=c.wpIn (Fr ro) 0 P Q a w
def _root_.Go.Oper.wq (P:Program) (o:Oper) (a:Act) (w:World) (next:Act->World->Prop) (Q:Exit->Act->World->Prop):Prop :=
 o.uponIn (Fr none) 0 P a next Q ((execOp a.eval o).run P w)
def wpOp (P:Program) (ops:Array Oper) (Q:Exit->Act->World->Prop) (i:Nat) (K:Act->World->Prop) (a:Act) (w:World):Prop :=
 match ops[i]? with
 | none=>K a w
 | some o=>if Region.wanted o (yielded ops a.tmps)then o.wq P a w K Q else K (a.put o.dst undef) w
def wpOps (P:Program) (ops:Array Oper) (Q:Exit->Act->World->Prop):List Nat->Act->World->Prop
 | [],a,w=>Q .normal a w
 | i::rest,a,w=>wpOp P ops Q i (wpOps P ops Q rest) a w
def wpList (P:Program) (ops:Array Oper) (Q:Exit->Act->World->Prop):List Oper->Act->World->Prop
 | [],a,w=>Q .normal a w
 | o::rest,a,w=>if Region.wanted o (yielded ops a.tmps)then o.wq P a w (wpList P ops Q rest) Q else wpList P ops Q rest (a.put o.dst undef) w
def wpAny (P:Program) (md:Region.Mode) (ops:Array Oper) (Q:Exit->Act->World->Prop):Nat->Array Bool->Act->World->Prop
 | 0,listed,a,w=>Region.ready md ops listed=[]∧Q .normal a w
 | fuel+1,listed,a,w =>
  (Region.ready md ops listed=[]->Q .normal a w) ∧
  ∀ i∈Region.ready md ops listed,wpOp P ops Q i (wpAny P md ops Q fuel (listed.setIfInBounds i true)) a w
section
variable {P:Program} {ops:Array Oper} {Q:Exit->Act->World->Prop} {md:Region.Mode}
theorem _root_.Go.Oper.wq_mono {o:Oper} {a:Act} {w:World} {K K':Act->World->Prop} {Q Q':Exit->Act->World->Prop} (h:∀ a w,K a w->K' a w) (hq:∀ e a w,e≠.normal->Q e a w->Q' e a w)
 (hh:o.wq P a w K Q):o.wq P a w K' Q':=by
 unfold Oper.wq at *
 generalize (execOp a.eval o).run P w=r at *
 cases r with
 | ok n w' =>
  cases n<;>simp only[Oper.uponIn]at hh ⊢ <;>
   first
    | exact h _ _ hh
    | exact⟨hh.1,CallsIn.mono hh.2 (fun e w'' he=>by cases e<;>first | exact h _ _ he | exact hq _ _ _ (by simp) he | exact(let ⟨a,w,hx⟩:=he; ⟨a,w,hq _ _ _ (by simp) hx⟩))⟩
    | exact⟨hh.1,RoundIn.mono hh.2 (fun e w'' he=>by cases e<;>first | exact h _ _ he | exact hq _ _ _ (by simp) he | exact(let ⟨a,w,hx⟩:=he; ⟨a,w,hq _ _ _ (by simp) hx⟩))⟩
    | exact⟨hh.1,fun c cs hr=>let ⟨v,w',h1,h2⟩:=hh.2 c cs hr; ⟨v,w',h _ _ h1,h2⟩⟩
 | halt x w'=>cases x<;>simp only[Oper.uponIn]at hh ⊢ <;> exact hq _ _ _ (by simp) hh
theorem wpOp_mono {i:Nat} {a:Act} {w:World} {K K':Act->World->Prop} (h:∀ a w,K a w->K' a w) (hh:wpOp P ops Q i K a w):wpOp P ops Q i K' a w:=by
 unfold wpOp at *
 split
 · exact h _ _ (by simpa[*]using hh)
 · rename_i o ho
   simp only[ho]at hh
   split
   · rename_i hw; simp only[hw,if_true]at hh; exact Oper.wq_mono h (fun _ _ _ _ h=>h) hh
   · rename_i hw; simp only[hw]at hh; exact h _ _ hh
theorem wpOps_eq_wpList (l:List Oper):∀ k,(∀ j,l[j]? = ops[k+j]?)->wpOps P ops Q (List.range' k l.length)=wpList P ops Q l:=by
 induction l with
 | nil=>intro k _; funext a w; simp[wpOps,wpList]
 | cons o l ih =>
  intro k h
  have h0:ops[k]? = some o:=by simpa using (h 0).symm
  have ih':=ih (k+1) (fun j=>by have:=h (j+1); simpa[Nat.add_assoc,Nat.add_comm 1 j]using this)
  funext a w
  simp only[List.length_cons,List.range'_succ,wpOps,wpOp,h0,wpList,ih']
theorem linearise_acc (md:Region.Mode) (ops:Array Oper) (fuel t:Nat) (listed:Array Bool) (acc:List Nat) :
 Region.linearise.go md ops fuel t listed acc=acc.reverse++Region.linearise.go md ops fuel t listed []:=linearise_go_acc md ops fuel t listed acc
theorem wpAny_sound:∀ (fuel t:Nat) (listed:Array Bool) (a:Act) (w:World),wpAny P md ops Q fuel listed a w →
 wpOps P ops Q (Region.linearise.go md ops fuel t listed []) a w:=by
 intro fuel
 induction fuel with
 | zero=>intro t listed a w h; simpa[Region.linearise.go,wpOps]using h.2
 | succ fuel ih =>
  intro t listed a w h
  obtain⟨h₀,h₁⟩:=h
  simp only[Region.linearise.go]
  change wpOps P ops Q (match (Region.ready md ops listed)[t % (Region.ready md ops listed).length]? with
   | some i=>Region.linearise.go md ops fuel (t / (Region.ready md ops listed).length) (listed.setIfInBounds i true) [i]
   | none=>[].reverse) a w
  cases hi:(Region.ready md ops listed)[t % (Region.ready md ops listed).length]? with
  | none =>
   have hnil:Region.ready md ops listed=[]:=by
    cases hr:Region.ready md ops listed with
    | nil=>rfl
    | cons x xs =>
     rw[hr]at hi
     have hlt:t % (x::xs).length<(x::xs).length:=Nat.mod_lt _ (by simp)
     simp at hi
     simp at hlt
     omega
   simpa[wpOps]using h₀ hnil
  | some i =>
   simp only[]
   rw[linearise_acc,List.reverse_singleton,List.singleton_append]
   exact wpOp_mono (fun a w=>ih _ _ a w) (h₁ i (List.mem_of_getElem? hi))
def ndB (ops:Array Oper):Bool:=ops.all fun o=>match o.op with | .defer _=>false | _=>true
theorem nd_spec (h:ndB ops=true) {i:Nat} {o:Oper} (ho:ops[i]? = some o):∀ c,o.op≠.defer c:=by
 intro c hc
 unfold ndB at h
 rw[Array.all_eq_true]at h
 obtain⟨hlt,rfl⟩:=Array.getElem?_eq_some_iff.1 ho
 have:=h i hlt
 rw[hc]at this; cases this
theorem upon_fr {ro:Option Nat} {o:Oper} {a:Act} {next:Act->World->Prop} {r:Result Next} (h:o.uponIn (Fr none) 0 P a next Q r):o.uponIn (Fr ro) 0 P a next Q r:=by
 cases r with
 | ok n w=>cases n<;>exact h
 | halt x w=>cases x<;>exact h
theorem opsIn_of (hn:ndB ops=true) (ro:Option Nat):∀ (l:List Nat) (a:Act) (w:World),wpOps P ops Q l a w->wpOpsIn (Fr ro) 0 P ops Q l a w:=by
 intro l
 induction l with
 | nil=>exact fun a w h=>h
 | cons i r ih =>
  intro a w h
  have h':wpOp P ops Q i (wpOpsIn (Fr ro) 0 P ops Q r) a w:=wpOp_mono ih h
  unfold wpOp at h'
  simp only[wpOpsIn]
  cases ho:ops[i]? with
  | none=>rw[ho]at h'; exact h'
  | some o =>
   rw[ho]at h'
   simp only at h' ⊢
   split
   · rename_i hw
     rw[if_pos hw]at h'
     refine⟨fun _ _=>trivial,?_⟩
     rw[Oper.semAt_eq _ _ _ (nd_spec hn ho)]
     exact upon_fr h'
   · rename_i hw
     rw[if_neg hw]at h'
     exact⟨fun _ _=>trivial,h'⟩
variable {a:Act} {w:World} {ro:Option Nat}
theorem wp_region_list {id:Nat} (hn:ndB ops=true) (h:wpList P ops Q ops.toList a w):(Code.region id ops false).wq ro P Q a w :=
 wpIn_region (opsIn_of hn ro _ a w (by rw[List.range_eq_range',<- Array.length_toList,wpOps_eq_wpList ops.toList 0 (by simp)]; exact h))
theorem wp_region_any {id:Nat} (hn:ndB ops=true) (hm:P.follows .mixedOrders=true)
 (h:wpAny P .any ops Q ops.size (Array.replicate ops.size false) a { w with drawn:=w.drawn+1 }):(Code.region id ops true).wq ro P Q a w :=
 wpIn_region_draw fun t=>by
  simp only[Region.schedule,hm,Bool.true_or,if_true]
  exact opsIn_of hn ro _ a _ (wpAny_sound ops.size t _ a _ h)
theorem wpList_step {o:Oper} {rest:List Oper}
 (h:∀ K:Act->World->Prop,(∀ a w,wpList P ops Q rest a w->K a w) →
  if Region.wanted o (yielded ops a.tmps)then o.wq P a w K Q else K (a.put o.dst undef) w):wpList P ops Q (o::rest) a w:=h _ fun _ _ h=>h
theorem wq_mono {c:Code} {Q':Exit->Act->World->Prop} (h:c.wq ro P Q a w) (hq:∀ e a w,Q e a w->Q' e a w):c.wq ro P Q' a w:=wpIn_mono h hq
end
section
variable {P:Program} {b:Frame} {a:Act} {k:List Item} {cs:List Frame} {w:World} {F:Fence} {n:Nat} {Q:Exit->Act->World->Prop}
theorem stepR_scope {c:Code}:step P (lone (b.atR a (.code (.scope c)::k)) cs w)=.next (lone (b.atR a (.code c::.inScope c::k)) cs w) :=
 step_lone_go (by simp[stepG,stepG.exec,Frame.atR])
theorem stepR_inScope {c:Code}:step P (lone (b.atR a (.inScope c::k)) cs w)=.next (lone (b.atR a k) cs w) :=
 step_lone_go (by simp[stepG,stepG.exec,Frame.atR])
theorem wpIn_scope {c:Code} (h:c.wpIn F n P (fun e a w=>(match e with | .goto _=>False | _=>True)∧Q e a w) a w):(Code.scope c).wpIn F n P Q a w:=by
 intro b k cs hro hb hr
 have h0:(lone (b.atR a (.code (.scope c)::k)) cs w).fenced P F:=fenced_calm hb hr rfl
 obtain⟨e,a₁,w₁,⟨hg,hq⟩,harr⟩:=h b (.inScope c::k) cs hro hb hr
 have hx:∀ id,exitTo id (.inScope c::k)=exitTo id k:=fun id=>by simp[exitTo]
 cases e with
 | normal=>exact⟨.normal,a₁,w₁,hq,.head h0 stepR_scope (StepsIn.trans harr (.one (fenced_calm hb hr rfl) stepR_inScope))⟩
 | exit id=>exact⟨.exit id,a₁,w₁,hq,fun k' hk=>.head h0 stepR_scope (harr.1 k' (by rw[hx]; exact hk)),
  fun hr' hk=>let ⟨k₁,h1,h2⟩:=harr.2 hr' (by rw[hx]; exact hk); ⟨k₁,h1,.head h0 stepR_scope h2⟩⟩
 | goto l=>exact hg.elim
 | ret=>exact⟨_,a₁,w₁,hq,.of_steps (.one h0 stepR_scope) harr⟩
 | panic ch=>exact⟨_,a₁,w₁,hq,.of_steps (.one h0 stepR_scope) harr⟩
 | outgrown=>exact⟨_,a₁,w₁,hq,.of_steps (.one h0 stepR_scope) harr⟩
end
structure DB where
 n0:Nat
 base:List Deferred
 ro:Option Nat
def mark (D:Nat):Deferred:={ target:=.collected D,args := #[] }
structure DB.Ok (d:DB) (w:World) (ds:List Deferred):Prop where
 le:d.n0≤w.heap.size
 ms:∃ ms:List Nat,ds=ms.map mark++d.base∧ms.Nodup∧∀ D∈ms,d.n0≤D∧w.heap[D]? = some (.deferred (some []))
 ro:∀ l,d.ro=some l->∃ r,w.heap[l]? = some (.loop r)
theorem DB.Ok.drew {d:DB} {w:World} {ds:List Deferred} (h:d.Ok w ds):d.Ok w.drew ds:=⟨h.le,h.ms,h.ro⟩
end Go.Ab
namespace Go.Ab
variable [GlobEnv] [FrEnv] [KnEnv]
inductive J where
 | p (i:I)
 | e (i:E)
 | q (f:Od) (args:List Od)
structure Ins where
 d:Option Nat
 g:Option (Nat×Bool)
 j:J
inductive XE where
 | normal
 | exit (id:Nat)
 | goto (l:Nat)
 | ret
 | panic (x:SV)
inductive Out where
 | ret (r:SV)
 | pan (x:SV)
def Ok (P:Program) (f:FuncId) (args:List SV) (H:List AO) (out:Out) (H':List AO):Prop :=
 (∀ (vs:Array Value) (w:World),(callFunc f vs).run P w=.ok (.enter f vs) w) ∧
 ∀ (S:St) (vs:List Value),S.H=H->Sim S->VRs S args vs →
  Calls P f vs.toArray S.w fun e w'=>∃ (v:Value) (ρ':Nat->Option Nat),Ext S.H.length S ⟨ρ',H',w'⟩∧Sim ⟨ρ',H',w'⟩ ∧
   match out with
   | .ret r=>e=.returned v∧VR ⟨ρ',H',w'⟩ r v
   | .pan x=>e=.panicked [{ v:=v,recovered:=false }]∧VR ⟨ρ',H',w'⟩ x v
def OkP (P:Program) (f:FuncId) (args:List SV) (H:List AO) (Pt:Out->List AO->Prop):Prop :=
 (∀ (vs:Array Value) (w:World),(callFunc f vs).run P w=.ok (.enter f vs) w) ∧
 ∀ (S:St) (vs:List Value),S.H=H->Sim S->VRs S args vs →
  Calls P f vs.toArray S.w fun e w'=>∃ (out:Out) (H':List AO) (v:Value) (ρ':Nat->Option Nat),Pt out H'∧Ext S.H.length S ⟨ρ',H',w'⟩∧Sim ⟨ρ',H',w'⟩ ∧
   match out with
   | .ret r=>e=.returned v∧VR ⟨ρ',H',w'⟩ r v
   | .pan x=>e=.panicked [{ v:=v,recovered:=false }]∧VR ⟨ρ',H',w'⟩ x v
theorem Ok.toP {P:Program} {f:FuncId} {args:List SV} {H:List AO} {out:Out} {H':List AO} (h:Ok P f args H out H'):OkP P f args H fun o h=>o=out∧h=H':=by
 refine⟨h.1,fun S vs h1 h2 h3=>(h.2 S vs h1 h2 h3).mono ?_⟩
 rintro e w ⟨v,ρ',h4,h5,h6⟩
 exact⟨out,H',v,ρ',⟨rfl,rfl⟩,h4,h5,h6⟩
theorem OkP.mono {P:Program} {f:FuncId} {args:List SV} {H:List AO} {Pt Pt':Out->List AO->Prop} (h:OkP P f args H Pt) (hp:∀ o h,Pt o h->Pt' o h):OkP P f args H Pt':=by
 refine⟨h.1,fun S vs h1 h2 h3=>(h.2 S vs h1 h2 h3).mono ?_⟩
 rintro e w ⟨out,H',v,ρ',h0,h4⟩
 exact⟨out,H',v,ρ',hp _ _ h0,h4⟩
def YlP (P:Program) (i:Nat) (args:List SV) (H:List AO) (Pt:Out->List AO->Prop):Prop :=
 (∃ o,H[i]? = some o∧o.ver=0)∧∀ (S:St) (vs:List Value) (l:Nat),S.H=H->Sim S->VRs S args vs->S.ρ i=some l →
  ∃ r,S.w.heap[l]? = some (Obj.loop r)∧vs.length=r.params.size ∧
   RoundIn (Fr none) 0 P l r.fn ((r.params.zip vs.toArray).foldl (fun tmps (t,a)=>tmps.setIfInBounds t a) r.tmps) r.assign r.body S.w fun e w' =>
    ∃ (out:Out) (H':List AO) (v:Value) (ρ':Nat->Option Nat),Pt out H'∧Ext S.H.length S ⟨ρ',H',w'⟩∧Sim ⟨ρ',H',w'⟩ ∧
     match out with
     | .ret r=>e=.returned v∧VR ⟨ρ',H',w'⟩ r v
     | .pan x=>e=.panicked [{ v:=v,recovered:=false }]∧VR ⟨ρ',H',w'⟩ x v
def OkC (P:Program) (f:SV) (args:List SV) (H:List AO) (out:Out) (H':List AO):Prop :=
 f.vd=true∧match f.ug with
 | .fn (.func k) first cap=>Ok P k (first++args++cap) H out H'
 | _=>False
def OkCP (P:Program) (f:SV) (args:List SV) (H:List AO) (Pt:Out->List AO->Prop):Prop :=
 f.vd=true∧match f.ug with
 | .fn (.func k) first cap=>OkP P k (first++args++cap) H Pt
 | .yl i=>YlP P i args H Pt
 | _=>False
theorem OkC.toP {P:Program} {f:SV} {args:List SV} {H:List AO} {out:Out} {H':List AO} (h:OkC P f args H out H'):OkCP P f args H fun o h=>o=out∧h=H':=by
 refine⟨h.1,?_⟩
 have h2:=h.2
 split at h2
 · rename_i hf
   rw[hf]
   exact h2.toP
 · exact h2.elim
def SV.on (want:Bool):SV->Bool
 | .val (.bool b)=>b==want
 | .gd b x=>b&&x.on want
 | _=>false
def SV.bish:SV->Bool
 | .val (.bool _)=>true
 | .gd _ x=>x.bish
 | _=>false
def xj (P:Program) (o:Ins) (env:Env) (H:List AO) (K:XE->Env->List AO->Prop):Prop :=
 match o.j with
 | .p i=>(pv i env.ev H).1∧K .normal (env.put o.d (pv i env.ev H).2) H
 | .e (.call f args)=>∃ Pt:Out->List AO->Prop,OkCP P (env.ev f) (args.map env.ev) H Pt∧∀ out H',Pt out H' →
  match out with
  | .ret r=>K .normal (env.put o.d r) H'
  | .pan x=>K (.panic x) env H'
 | .e (.pan x)=>(env.ev x).vd=true∧match (env.ev x).ug with
  | .ifc t y=>K (.panic (.ifc t y)) env H
  | _=>False
 | .e i=>xe i env.ev H fun v H'=>K .normal (env.put o.d v) H'
 | .q f args=>∃ r,OkC P (env.ev f) (args.map env.ev) H (.ret r) H∧K .normal (env.put o.d r) H
def xo (P:Program) (o:Ins) (env:Env) (H:List AO) (K:XE->Env->List AO->Prop):Prop :=
 match o.g with
 | none=>xj P o env H K
 | some (s,want) =>
  (env.get s).bish=true ∧
  match o.j with
  | .p i=>((env.get s).on want=true->(pv i env.ev H).1)∧K .normal (env.put o.d (.gd ((env.get s).on want) (pv i env.ev H).2)) H
  | .q f args=>∃ r,((env.get s).on want=true->OkC P (env.ev f) (args.map env.ev) H (.ret r) H)∧K .normal (env.put o.d (.gd ((env.get s).on want) r)) H
  | .e _=>((env.get s).on want=true->xj P o env H K)∧((env.get s).on want=false->K .normal (env.put o.d (.val undef)) H)
def xops (P:Program):List Ins->Env->List AO->(XE->Env->List AO->Prop)->Prop
 | [],env,H,K=>K .normal env H
 | o::r,env,H,K=>xo P o env H fun x env H =>
  match x with
  | .normal=>xops P r env H K
  | x=>K x env H
def ER (S:St):XE->Exit->Prop
 | .normal,.normal=>True
 | .exit i,.exit j=>i=j
 | .goto i,.goto j=>i=j
 | .ret,.ret=>True
 | .panic x,.panic ch=>∃ v,ch=[{ v:=v,recovered:=false }]∧VR S x v
 | _,_=>False
def Post (S:St) (N:Nat) (d:DB) (K:XE->Env->List AO->Prop):Exit->Act->World->Prop:=fun e a w =>
 ∃ x env ρ H,ER ⟨ρ,H,w⟩ x e∧Ext S.H.length S ⟨ρ,H,w⟩∧Sim ⟨ρ,H,w⟩∧EnvR ⟨ρ,H,w⟩ env a.tmps∧a.tmps.size=N∧d.Ok w a.defers∧K x env H
theorem DB.Ok.ext {d:DB} {S S':St} {n:Nat} {ds:List Deferred} (h:d.Ok S.w ds) (hS:Sim S) (he:Ext n S S'):d.Ok S'.w ds:=by
 refine⟨Nat.le_trans h.le he.size,?_,fun l hl=>let ⟨r,h1⟩:=h.ro l hl; he.loops l r h1⟩
 obtain⟨ms,h1,h2,h3⟩:=h.ms
 refine⟨ms,h1,h2,fun D hD=>⟨(h3 D hD).1,?_⟩⟩
 have h4:=(h3 D hD).2
 refine((he.imm D (lt_heap h4) ?_).1).trans h4
 rintro⟨i,o,ho,hl,hρ⟩
 rcases hS.own ho hl hρ with ⟨c,h5⟩ | ⟨r,h5⟩ | ⟨es,cl,h5⟩<;>(rw[h4]at h5; cases h5)
def partK (sz:Nat) (s:SV):Bool:=match s with | .agg l=>l.length==sz&&l.all SV.isCell | _=>false
def kroB (P:Program) (op:Op) (T:TypeId) (sz len:Nat) (z:List SV) (parts:List (Nat×SV)):Bool :=
 let cells:=fillS (List.replicate len z).flatten (parts.map fun p=>(p.1*sz,p.2))
 chkE P op (.bsl T sz len z (parts.map fun p=>(p.1,Od.c p.2)))&&cells.all SV.isCell&&SV.underL 0 cells&&cells.length==len*sz&&parts.all fun p=>decide (p.1*sz+sz≤len*sz)&&partK sz p.2
def chkJ (P:Program) (op:Op) (j:J):Bool :=
 match j with
 | .p (.kro T sz len z parts)=>kroB P op T sz len z parts
 | .p i=>chkI P op i
 | .e i=>chkE P op i
 | .q f args=>chkE P op (.call f args)
def chkIns (P:Program) (N:Nat) (ops:Array Oper) (o:Oper) (o':Ins):Bool :=
 o.dst==o'.d&&(match o.dst with | some d=>decide (d<N) | none=>true) &&
 (match o.guard,o'.g with
  | none,none=>true
  | some (j,want),some (s,want')=>want==want'&&((ops[j]?).bind (·.dst)==some s)
  | _,_=>false)&&chkJ P o.op o'.j
section
variable {P:Program} {S:St} {env:Env} {a:Act} {N:Nat} {d:DB}
def boolOf:Value->Option Bool
 | .bool b=>some b
 | _=>none
theorem on_spec {x:SV} {v:Value} {want:Bool} (h:VR S x v) (hb:x.bish=true):(boolOf v==some want)=x.on want:=by
 induction h with
 | val v=>cases v<;>simp_all [SV.bish,SV.on,boolOf]
 | gd b x v h0 h ih =>
  simp only[SV.bish]at hb
  simp only[SV.on]
  cases b with
  | true=>simpa using ih rfl hb
  | false=>rw[h0 rfl]; simp[undef,boolOf]
 | _=>simp[SV.bish]at hb
theorem yielded_spec {ops:Array Oper} {j s:Nat} (hj:(ops[j]?).bind (·.dst)=some s) (tmps:Array Value) :
 yielded ops tmps j=boolOf (tmps.getD s undef):=by
 unfold yielded
 rw[hj]
 simp only[Option.bind_some,Array.getD_eq_getD_getElem?]
 cases h:tmps[s]? with
 | none=>simp[undef,boolOf]
 | some v=>simp only[Option.getD_some]; cases v<;>rfl
def StepOf (P:Program) (ops:Array Oper) (o:Oper) (a:Act) (w:World) (next:Act->World->Prop) (Q:Exit->Act->World->Prop):Prop :=
 if Region.wanted o (yielded ops a.tmps)then o.wq P a w next Q else next (a.put o.dst undef) w
theorem okCP_wp (hS:Sim S) (he:EnvR S env a.tmps) {o:Oper} {f:Od} {args:List Od} (hc:chkE P o.op (.call f args)=true) {Pt:Out->List AO->Prop}
   (hok:OkCP P (env.ev f) (args.map env.ev) S.H Pt) {next:Act->World->Prop} {Q:Exit->Act->World->Prop}
   (h1:∀ out H' v ρ' w',Pt out H'->Ext S.H.length S ⟨ρ',H',w'⟩->Sim ⟨ρ',H',w'⟩ →
     (match out with
      | .ret r=>VR ⟨ρ',H',w'⟩ r v->next (a.put o.dst v) w'
      | .pan x=>VR ⟨ρ',H',w'⟩ x v->Q (.panic [{ v:=v,recovered:=false }]) a w')):o.wq P a S.w next Q:=by
 generalize hop:o.op=op at hc
 simp only[chkE]at hc
 split at hc
 · rename_i f' as ts
   simp only[Bool.and_eq_true]at hc
   have hf:=chkOd_spec hc.1 he
   have has:=chkOds_spec hc.2 he
   obtain⟨hvd,hok⟩:=hok
   have hf':=hf.ug hvd
   split at hok
   · rename_i k first cap hug
     rw[hug]at hf'
     obtain⟨us,vs,hv,hus,hvs⟩:=hf'.fn_inv
     obtain⟨hent,hcall⟩:=hok
     have hcalls:=hcall S (us++as.toList.map a.eval++vs) rfl hS ((hus.append has).append hvs)
     have hrun:(execOp a.eval o).run P S.w=.ok (.enter k (us++as.toList.map a.eval++vs).toArray) S.w:=by
       have e1:us.toArray++as.map a.eval++vs.toArray=(us++as.toList.map a.eval++vs).toArray:=by apply Array.ext'; simp
       simp only[execOp,hop,resolve,hv,Deferred.ofValue,Sem.run_bind,Sem.run_pure,Result.andThen_ok,invoke]
       rw[e1,hent]
     unfold Oper.wq
     rw[hrun,Oper.uponIn_enter]
     refine⟨fr_one,callsIn_wide.2 (hcalls.mono ?_)⟩
     rintro e w' ⟨out,H',v,ρ',hpt,hext,hsim,hout⟩
     cases out with
     | ret r=>obtain⟨rfl,hvr⟩:=hout; exact h1 _ H' v ρ' w' hpt hext hsim hvr
     | pan x=>obtain⟨rfl,hvr⟩:=hout; exact h1 _ H' v ρ' w' hpt hext hsim hvr
   · rename_i i hug
     rw[hug]at hf'
     obtain⟨⟨o1,ho1,hv1⟩,hok⟩:=hok
     generalize hfv:a.eval f'=fv at hf'
     cases hf' with
     | yl _ l o2 ho2 hρ =>
       rw[ho1]at ho2; cases ho2
       obtain⟨r,hr,hlen,hround⟩:=hok S (as.toList.map a.eval) l rfl hS has (hρ hv1)
       have hrun:(execOp a.eval o).run P S.w=.ok (.round l r.fn ((r.params.zip (as.toList.map a.eval).toArray).foldl (fun tmps (t,a)=>tmps.setIfInBounds t a) r.tmps) r.assign r.body) S.w:=by
         have hy:=run_yield (P:=P) (args:=(as.toList.map a.eval).toArray) hr (by simpa using hlen)
         have e1:as.map a.eval=(as.toList.map a.eval).toArray:=by apply Array.ext'; simp
         simp only[execOp,hop,resolve,hfv,Deferred.ofValue,Sem.run_bind,Sem.run_pure,Result.andThen_ok,invoke]
         simpa[e1]using hy
       unfold Oper.wq
       rw[hrun,Oper.uponIn_round]
       refine⟨fr_one,hround.mono ?_⟩
       rintro e w' ⟨out,H',v,ρ',hpt,hext,hsim,hout⟩
       cases out with
       | ret r=>obtain⟨rfl,hvr⟩:=hout; exact h1 _ H' v ρ' w' hpt hext hsim hvr
       | pan x=>obtain⟨rfl,hvr⟩:=hout; exact h1 _ H' v ρ' w' hpt hext hsim hvr
   · exact hok.elim
 · cases hc
theorem okC_wp (hS:Sim S) (he:EnvR S env a.tmps) {o:Oper} {f:Od} {args:List Od} (hc:chkE P o.op (.call f args)=true) {out:Out} {H':List AO}
   (hok:OkC P (env.ev f) (args.map env.ev) S.H out H') {next:Act->World->Prop} {Q:Exit->Act->World->Prop}
   (h1:∀ v ρ' w',Ext S.H.length S ⟨ρ',H',w'⟩->Sim ⟨ρ',H',w'⟩ →
     (match out with
      | .ret r=>VR ⟨ρ',H',w'⟩ r v->next (a.put o.dst v) w'
      | .pan x=>VR ⟨ρ',H',w'⟩ x v->Q (.panic [{ v:=v,recovered:=false }]) a w')):o.wq P a S.w next Q :=
 okCP_wp hS he hc hok.toP fun o h v ρ' w' hp he hs=>by
   obtain⟨rfl,rfl⟩:=hp
   cases o<;>exact h1 v ρ' w' he hs
theorem put_size (a:Act) (d:Option Nat) (v:Value):(a.put d v).tmps.size=a.tmps.size:=by cases d<;>simp[Act.put]
theorem put_defers (a:Act) (d:Option Nat) (v:Value):(a.put d v).defers=a.defers:=by cases d<;>rfl
theorem thaw {S:St} (hS:Sim S) {H0:List AO} {cells:List SV} {T:TypeId} {len sz:Nat} {v:Value} (hH:S.H=H0++[⟨cells,T,0,true⟩]) (hcl:∀ (i:Nat) (o:AO),H0[i]? = some o->∀ s∈o.cells,s.under H0.length=true)
 (hu:SV.underL H0.length cells=true) (hlen:cells.length=len*sz) (hv:VR S (.own H0.length 0 len sz 0) v) :
 Ext H0.length S ⟨S.ρ,H0,S.w⟩∧Sim ⟨S.ρ,H0,S.w⟩∧VR ⟨S.ρ,H0,S.w⟩ (.slc cells len) v:=by
 have hle:H0.length≤S.H.length:=by rw[hH]; simp
 have ht:S.H.take H0.length=H0:=by rw[hH]; simp
 have h1:=ext_drop (S:=S) hle
 have h2:=sim_drop hS hle (fun i o hi ho=>hcl i o (by rw[hH,List.getElem?_append_left hi]at ho; exact ho))
 rw[ht]at h1 h2
 refine⟨h1,h2,?_⟩
 have hat:S.H[H0.length]? = some ⟨cells,T,0,true⟩:=by rw[hH]; simp
 have hl:=hS.live _ _ hat rfl
 have zero:len=0->cells=[]:=fun h=>List.eq_nil_of_length_eq_zero (by rw[hlen,h,Nat.zero_mul])
 have none_:∀ (ad:Option Addr) (cap:Nat),len=0->(ad=none->cap=0)->VR ⟨S.ρ,H0,S.w⟩ (.slc cells len) (.slice ad len cap):=by
  intro ad cap h0 hc
  rw[zero h0,h0]
  cases ad with
  | none=>rw[hc rfl]; exact .nilslc
  | some ad=>exact .slc [] 0 ad cap [] (Nat.zero_le _) rfl ⟨fun j u hj=>by simp at hj,fun hne=>absurd rfl hne,imm_part0⟩ fun j s u hj=>by simp at hj
 cases hv with
 | own _ _ _ _ _ ad cap o ho hvv hc hz h =>
  rw[hat]at ho; cases ho
  have h3:=h rfl
  unfold St.OwnAt at h3
  cases hρ:S.ρ H0.length with
  | none =>
   rw[hρ]at h3
   exact none_ ad cap h3.1 fun _=>h3.2
  | some b =>
   rw[hρ]at h3 hl
   obtain⟨us,rest,hh,hvr⟩:=hl
   rcases h3 with h3 | ⟨rfl,_⟩
   · exact none_ ad cap (by omega) fun _=>h3
   · have hvr':=hvr.extB h1 hu
     refine .slc cells len _ cap us hc hvr'.1 ⟨?_,fun _ hr => ?_,fun _ _=>.inl ⟨_,_,hh⟩⟩ hvr'.2
     · intro j u hj
       have hadd:(⟨b,0,none⟩:Addr).add j=⟨b,j,none⟩:=by unfold Addr.add; split<;>simp_all
       rw[hadd]
       unfold World.cell?
       simp only[hh,Option.isSome_none,Bool.false_eq_true,if_false]
       simp[List.getElem?_append_left (getElem?_lt hj),hj]
     · obtain⟨i,o,ho,hl',hρ'⟩:=hr
       have hi:i<H0.length:=getElem?_lt ho
       have ho':S.H[i]? = some o:=by rw[hH,List.getElem?_append_left hi]; exact ho
       have:=hS.inj i H0.length o _ b ho' hat hl' (AO.own_live rfl) hρ' hρ
       omega
theorem kro_sound (hS:Sim S) (he:EnvR S env a.tmps) {o:Oper} {T:TypeId} {sz len:Nat} {z:List SV} {parts:List (Nat×SV)} (hc:kroB P o.op T sz len z parts=true) :
 ∃ v ρ' w',(execOp a.eval o).run P S.w=.ok (.value v) w'∧Ext S.H.length S ⟨ρ',S.H,w'⟩∧Sim ⟨ρ',S.H,w'⟩∧VR ⟨ρ',S.H,w'⟩ (.slc (fillS (List.replicate len z).flatten (parts.map fun p=>(p.1*sz,p.2))) len) v:=by
 unfold kroB at hc
 simp only[Bool.and_eq_true,beq_iff_eq,List.all_eq_true,decide_eq_true_eq]at hc
 obtain⟨⟨⟨⟨h1,h2⟩,h3⟩,h4⟩,h5⟩:=hc
 have hm:(parts.map fun p=>(p.1,Od.c p.2)).map (fun p=>(p.1*sz,env.ev p.2))=parts.map fun p=>(p.1*sz,p.2):=by
  rw[List.map_map]; rfl
 obtain⟨nv,S',sv,hrun,hext,hsim,hvr,rfl,hH⟩:=eff_sound (o:=o) hS he h1 rfl (K:=fun sv H'=>sv=.own S.H.length 0 len sz 0∧H'=S.H++[⟨fillS (List.replicate len z).flatten (parts.map fun p=>(p.1*sz,p.2)),T,0,true⟩]) (by
  refine⟨?_,?_,?_⟩
  · intro p hp
    obtain⟨q,hq,rfl⟩:=List.mem_map.1 hp
    obtain⟨k1,k2⟩:=h5 q hq
    refine⟨?_,k1⟩
    unfold partK at k2
    split at k2
    · rename_i l hl
      rw[Bool.and_eq_true,beq_iff_eq]at k2
      show partOk sz (env.ev (.c q.2))
      simp only[Env.ev,hl]
      exact⟨k2.1,rfl⟩
    · cases k2
  · rw[hm]; exact h2
  · rw[hm]; exact⟨rfl,rfl⟩)
 obtain⟨k1,k2,k3⟩:=thaw hsim hH (fun i o ho=>fun s hs=>(hS.bel i o ho s hs).1) (SV.underL_mono (Nat.zero_le _) _ h3) h4 hvr
 refine⟨nv,S'.ρ,S'.w,?_,hext.trans (k1.mono (Nat.le_refl _)),k2,k3⟩
 rcases hrun with hrun | ⟨hrun,h0⟩
 · exact hrun
 · subst h0; cases hvr
theorem xj_sound (hS:Sim S) (he:EnvR S env a.tmps) (hN:a.tmps.size=N) (hd:d.Ok S.w a.defers) {o:Oper} {o':Ins} (hdst:o.dst=o'.d) (hlt:∀ t,o.dst=some t->t<N) (hc:chkJ P o.op o'.j=true)
 {K:XE->Env->List AO->Prop} (h:xj P o' env S.H K) {next:Act->World->Prop} {Q:Exit->Act->World->Prop}
 (hnext:∀ a' w',Post S N d K .normal a' w'->next a' w') (hQ:∀ ch a' w',Post S N d K (.panic ch) a' w'->Q (.panic ch) a' w'):o.wq P a S.w next Q:=by
 have hlt':∀ t,o.dst=some t->t<a.tmps.size:=by rw[hN]; exact hlt
 have fin:∀ (v:Value) (s:SV) (ρ':Nat->Option Nat) (H':List AO) (w':World),Ext S.H.length S ⟨ρ',H',w'⟩->Sim ⟨ρ',H',w'⟩->VR ⟨ρ',H',w'⟩ s v->K .normal (env.put o'.d s) H'->next (a.put o.dst v) w':=by
  intro v s ρ' H' w' h1 h2 h3 h4
  refine hnext _ _ ⟨.normal,env.put o'.d s,ρ',H',trivial,h1,h2,?_,by rw[put_size,hN],by rw[put_defers]; exact hd.ext hS h1,h4⟩
  rw[←hdst]
  exact(he.ext h1).put hlt' h3
 unfold xj at h
 cases hj:o'.j with
 | p i =>
  rw[hj]at h hc
  obtain⟨h1,h2⟩:=h
  have key:∃ v ρ' w',(execOp a.eval o).run P S.w=.ok (.value v) w'∧Ext S.H.length S ⟨ρ',S.H,w'⟩∧Sim ⟨ρ',S.H,w'⟩∧VR ⟨ρ',S.H,w'⟩ (pv i env.ev S.H).2 v:=by
   by_cases hk:∃ T sz len z parts,i=.kro T sz len z parts
   · obtain⟨T,sz,len,z,parts,rfl⟩:=hk
     exact kro_sound hS he hc
   · have hc':chkI P o.op i=true:=by
      cases i<;>first | exact hc | exact absurd ⟨_,_,_,_,_,rfl⟩ hk
     obtain⟨v,hrun,hv⟩:=pure_sound hS he hc' h1
     exact⟨v,S.ρ,S.w,hrun,Ext.refl _ S,hS,hv⟩
  obtain⟨v,ρ',w',hrun,hext,hsim,hv⟩:=key
  unfold Oper.wq
  rw[hrun,Oper.uponIn_value]
  exact fin v _ ρ' S.H w' hext hsim hv h2
 | q f args =>
  rw[hj]at h hc
  obtain⟨r,h1,h2⟩:=h
  refine okC_wp hS he hc h1 fun v ρ' w' hext hsim hv => ?_
  exact fin v r ρ' S.H w' hext hsim hv h2
 | e i =>
  rw[hj]at h hc
  by_cases hcall:i.isCall=true
  · cases i<;>simp[E.isCall]at hcall
    case call f args =>
     obtain⟨Pt,h1,h2⟩:=h
     refine okCP_wp hS he hc h1 fun out H' v ρ' w' hpt hext hsim => ?_
     have h2:=h2 out H' hpt
     cases out with
     | ret r=>exact fun hv=>fin v r ρ' H' w' hext hsim hv h2
     | pan x =>
      intro hv
      exact hQ _ _ _ ⟨.panic x,env,ρ',H',⟨v,rfl,hv⟩,hext,hsim,he.ext hext,hN,hd.ext hS hext,h2⟩
    case pan x =>
     obtain⟨hvd,h2⟩:=h
     generalize hop:o.op=op at hc
     simp only[chkJ,chkE]at hc
     split at hc
     · rename_i x0
       have hx':=(chkOd_spec hc he).ug hvd
       split at h2
       · rename_i t y hug
         rw[hug]at hx'
         generalize hv:a.eval x0=v at hx'
         cases hx' with
         | ifc _ _ v hy =>
          unfold Oper.wq
          have hrun:(execOp a.eval o).run P S.w=.halt (.panic (.iface t v)) S.w:=by
           simp only[execOp,hop,hv,Instr.panic]; rfl
          rw[hrun,Oper.uponIn_panic]
          exact hQ _ _ _ ⟨.panic (.ifc t y),env,S.ρ,S.H,⟨_,rfl,.ifc _ _ _ hy⟩,Ext.refl _ S,hS,he,hN,hd,h2⟩
       · exact h2.elim
     · cases hc
  · have hcall':i.isCall=false:=by simpa using hcall
    have h':xe i env.ev S.H fun v H'=>K .normal (env.put o'.d v) H':=by
     cases i<;>first | exact h | simp[E.isCall]at hcall'
    obtain⟨nv,S',sv,hrun,hext,hsim,hvr,hK⟩:=eff_sound (o:=o) hS he hc hcall' h'
    unfold Oper.wq
    rcases hrun with hrun | ⟨hrun,rfl⟩
    · rw[hrun,Oper.uponIn_value]; exact fin nv sv S'.ρ S'.H S'.w hext hsim hvr hK
    · rw[hrun,Oper.uponIn_skip]; exact fin _ sv S'.ρ S'.H S'.w hext hsim hvr hK
theorem xo_sound (hS:Sim S) (he:EnvR S env a.tmps) (hN:a.tmps.size=N) (hd:d.Ok S.w a.defers) {ops:Array Oper} {o:Oper} {o':Ins} (hc:chkIns P N ops o o'=true)
 {K:XE->Env->List AO->Prop} (h:xo P o' env S.H K) {next:Act->World->Prop} {Q:Exit->Act->World->Prop}
 (hnext:∀ a' w',Post S N d K .normal a' w'->next a' w') (hQ:∀ ch a' w',Post S N d K (.panic ch) a' w'->Q (.panic ch) a' w'):StepOf P ops o a S.w next Q:=by
 unfold chkIns at hc
 rw[Bool.and_eq_true,Bool.and_eq_true,Bool.and_eq_true,beq_iff_eq]at hc
 obtain⟨⟨⟨hdst,hlt0⟩,hg⟩,hj⟩:=hc
 have hlt:∀ t,o.dst=some t->t<N:=by intro t ht; rw[ht]at hlt0; simpa using hlt0
 have hlt':∀ t,o.dst=some t->t<a.tmps.size:=by rw[hN]; exact hlt
 unfold StepOf
 unfold xo at h
 cases hog:o.guard with
 | none =>
  rw[hog]at hg
  cases hog':o'.g with
  | some x=>rw[hog']at hg; cases hg
  | none =>
   rw[hog']at h
   rw[if_pos (by simp[Region.wanted,hog])]
   exact xj_sound hS he hN hd hdst hlt hj h hnext hQ
 | some jw =>
  obtain⟨j,want⟩:=jw
  rw[hog]at hg
  cases hog':o'.g with
  | none=>rw[hog']at hg; cases hg
  | some sw =>
   obtain⟨s,want'⟩:=sw
   rw[hog']at hg h
   simp only[Bool.and_eq_true,beq_iff_eq]at hg
   obtain⟨rfl,hs⟩:=hg
   simp only at h
   obtain⟨hb,h⟩:=h
   have hw:Region.wanted o (yielded ops a.tmps)=(env.get s).on want:=by
    unfold Region.wanted
    rw[hog]
    simp only
    rw[yielded_spec hs]
    exact on_spec (he.get s) hb
   rw[hw]
   have skip:∀ (sv:SV),(env.get s).on want=false->VR S sv undef->K .normal (env.put o'.d sv) S.H->next (a.put o.dst undef) S.w:=by
    intro sv hoff hv hK
    refine hnext _ _ ⟨.normal,env.put o'.d sv,S.ρ,S.H,trivial,Ext.refl _ S,hS,?_,by rw[put_size,hN],by rw[put_defers]; exact hd,hK⟩
    rw[←hdst]
    exact he.put hlt' hv
   cases hoj:o'.j with
   | p i =>
    rw[hoj]at h hj
    obtain⟨h1,h2⟩:=h
    cases hon:(env.get s).on want with
    | true =>
     rw[if_pos rfl]
     have key:∃ v ρ' w',(execOp a.eval o).run P S.w=.ok (.value v) w'∧Ext S.H.length S ⟨ρ',S.H,w'⟩∧Sim ⟨ρ',S.H,w'⟩∧VR ⟨ρ',S.H,w'⟩ (pv i env.ev S.H).2 v:=by
      by_cases hk:∃ T sz len z parts,i=.kro T sz len z parts
      · obtain⟨T,sz,len,z,parts,rfl⟩:=hk
        exact kro_sound hS he hj
      · have hc':chkI P o.op i=true:=by
         cases i<;>first | exact hj | exact absurd ⟨_,_,_,_,_,rfl⟩ hk
        obtain⟨v,hrun,hv⟩:=pure_sound hS he hc' (h1 hon)
        exact⟨v,S.ρ,S.w,hrun,Ext.refl _ S,hS,hv⟩
     obtain⟨v,ρ',w',hrun,hext,hsim,hv⟩:=key
     unfold Oper.wq
     rw[hrun,Oper.uponIn_value]
     refine hnext _ _ ⟨.normal,_,ρ',S.H,trivial,hext,hsim,?_,by rw[put_size,hN],by rw[put_defers]; exact hd.ext hS hext,h2⟩
     rw[←hdst]
     exact(he.ext hext).put hlt' (.gd _ _ _ (fun e=>by rw[hon]at e; cases e) fun _=>hv)
    | false =>
     rw[if_neg (by simp)]
     exact skip _ hon (.gd _ _ _ (fun _=>rfl) fun e=>by rw[hon]at e; cases e) h2
   | q f args =>
    rw[hoj]at h hj
    obtain⟨r,h1,h2⟩:=h
    cases hon:(env.get s).on want with
    | true =>
     rw[if_pos rfl]
     refine okC_wp hS he hj (h1 hon) fun v ρ' w' hext hsim hv => ?_
     refine hnext _ _ ⟨.normal,_,ρ',S.H,trivial,hext,hsim,?_,by rw[put_size,hN],by rw[put_defers]; exact hd.ext hS hext,h2⟩
     rw[←hdst]
     exact(he.ext hext).put hlt' (.gd _ _ _ (fun e=>by rw[hon]at e; cases e) fun _=>hv)
    | false =>
     rw[if_neg (by simp)]
     exact skip _ hon (.gd _ _ _ (fun _=>rfl) fun e=>by rw[hon]at e; cases e) h2
   | e i =>
    rw[hoj]at h
    simp only at h
    cases hon:(env.get s).on want with
    | true =>
     rw[if_pos rfl]
     exact xj_sound hS he hN hd hdst hlt hj (h.1 hon) hnext hQ
    | false =>
     rw[if_neg (by simp)]
     exact skip _ hon (.val _) (h.2 hon)
theorem Post.trans {S S':St} {K:XE->Env->List AO->Prop} {e:Exit} {a:Act} {w:World} (he:Ext S.H.length S S') (h:Post S' N d K e a w):Post S N d K e a w:=by
 obtain⟨x,env,ρ,H,h1,h2,h3⟩:=h
 exact⟨x,env,ρ,H,h1,he.trans (h2.mono (he.len (Nat.le_refl _))),h3⟩
def chkL (P:Program) (N:Nat) (ops:Array Oper):List Oper->List Ins->Bool
 | [],[]=>true
 | o::r,o'::r'=>chkIns P N ops o o'&&chkL P N ops r r'
 | _,_=>false
theorem xops_sound {ops:Array Oper} {K:XE->Env->List AO->Prop}:∀ (l:List Oper) (l':List Ins) {S:St} {env:Env} {a:Act},Sim S->EnvR S env a.tmps->a.tmps.size=N->d.Ok S.w a.defers →
 chkL P N ops l l'=true->xops P l' env S.H K->wpList P ops (Post S N d K) l a S.w
 | [],[],S,env,a,hS,he,hN,hd,_,h=>⟨.normal,env,S.ρ,S.H,trivial,Ext.refl _ S,hS,he,hN,hd,h⟩
 | [],_::_,S,env,a,hS,he,hN,hd,hc,h=>by simp[chkL]at hc
 | _::_,[],S,env,a,hS,he,hN,hd,hc,h=>by simp[chkL]at hc
 | o::r,o'::r',S,env,a,hS,he,hN,hd,hc,h=>by
  simp only[chkL,Bool.and_eq_true]at hc
  refine wpList_step fun K' hK' => ?_
  have hstep:=xo_sound (Q:=Post S N d K) hS he hN hd hc.1 (by simpa only[xops]using h) (next:=K') (by
   rintro a' w' ⟨x,env',ρ',H',hx,hext,hsim,henv,hN',hd',hk⟩
   apply hK'
   cases x<;>simp only[ER]at hx
   simp only at hk
   have ih:=xops_sound r r' (S:=⟨ρ',H',w'⟩) hsim henv hN' hd' hc.2 hk
   have mono:∀ (l:List Oper) (a:Act) (w:World),wpList P ops (Post ⟨ρ',H',w'⟩ N d K) l a w->wpList P ops (Post S N d K) l a w:=by
    intro l
    induction l with
    | nil=>intro a w h; exact Post.trans hext h
    | cons o l ih =>
     intro a w h
     simp only[wpList]at h ⊢
     split
     · rename_i hw
       rw[if_pos hw]at h
       exact Oper.wq_mono ih (fun _ _ _ _ h=>Post.trans hext h) h
     · rename_i hw
       rw[if_neg hw]at h
       exact ih _ _ h
   exact mono r a' w' ih) (by
   rintro ch a' w' ⟨x,env',ρ',H',hx,hrest⟩
   cases x<;>simp only[ER]at hx
   exact⟨.panic _,env',ρ',H',hx,hrest⟩)
  exact hstep
end
end Go.Ab
namespace Go.Ab
variable [GlobEnv] [FrEnv] [KnEnv]
section
variable {P:Program}
def rchB (ops:Array Oper):Nat->Nat->Nat->Bool
 | 0,_,_=>false
 | n+1,i,k=>match ops[i]? with
  | none=>false
  | some o=>(o.after.toList.any fun e=>Region.binds .any e&&e.on==k)||(o.after.toList.any fun e=>Region.binds .any e&&rchB ops n e.on k)
theorem rch_listed {ops:Array Oper} {L:Nat->Prop} (hcl:∀ j o,L j->ops[j]? = some o->∀ e∈o.after,Region.binds .any e=true->L e.on) :
 ∀ (n i k:Nat) (o:Oper),ops[i]? = some o->(∀ e∈o.after,Region.binds .any e=true->L e.on)->rchB ops n i k=true->L k
 | 0,_,_,_,_,_,h=>by cases h
 | n+1,i,k,o,ho,hw,h=>by
  simp only[rchB,ho,Bool.or_eq_true,List.any_eq_true,Bool.and_eq_true,beq_iff_eq]at h
  rcases h with ⟨e,he,hb,hk⟩ | ⟨e,he,hb,hr⟩
  · rw[←hk]; exact hw e (by simpa using he) hb
  · have hL:=hw e (by simpa using he) hb
    cases n with
    | zero=>cases hr
    | succ n =>
     cases ho2:ops[e.on]? with
     | none=>simp[rchB,ho2]at hr
     | some o2=>exact rch_listed hcl (n+1) e.on k o2 ho2 (hcl e.on o2 hL ho2) hr
structure TailOk (ops:Array Oper) (n0:Nat):Prop where
 le:n0≤ops.size
 edge:∀ i o,ops[i]? = some o->∀ e∈o.after,Region.binds .any e=true->e.on<i
 guard:∀ i o,i<n0->ops[i]? = some o->∀ g w,o.guard=some (g,w)->g<n0
 all:∀ i o,n0≤i->ops[i]? = some o->∀ k,k<i->rchB ops ops.size i k=true
structure TailWt (ops:Array Oper) (n0:Nat):Prop where
 le:n0≤ops.size
 edge:∀ i o,ops[i]? = some o->∀ e∈o.after,Region.binds .any e=true->e.on<i
 guard:∀ i o,i<n0->ops[i]? = some o->∀ g w,o.guard=some (g,w)->g<n0
 all:∀ i o,n0≤i->ops[i]? = some o->∀ k,k<n0->rchB ops ops.size i k=true
theorem TailOk.wt {ops:Array Oper} {n0:Nat} (h:TailOk ops n0):TailWt ops n0:=⟨h.le,h.edge,h.guard,fun i o hi ho k hk=>h.all i o hi ho k (by omega)⟩
def tailW (ops:Array Oper) (n0:Nat):Bool :=
 decide (n0≤ops.size)&&(List.range ops.size).all fun i=>match ops[i]? with
  | none=>false
  | some o=>(o.after.toList.all fun e => !Region.binds .any e||decide (e.on<i)) &&
   (if i<n0 then(match o.guard with | none=>true | some (g,_)=>decide (g<n0))else(List.range n0).all fun k=>rchB ops ops.size i k)
theorem tailW_of {ops:Array Oper} {n0:Nat} (h:tailW ops n0=true):TailWt ops n0:=by
 unfold tailW at h
 rw[Bool.and_eq_true,List.all_eq_true]at h
 obtain⟨h1,h2⟩:=h
 have key:∀ i o,ops[i]? = some o->(o.after.toList.all fun e => !Region.binds .any e||decide (e.on<i))=true ∧
  (if i<n0 then(match o.guard with | none=>true | some (g,_)=>decide (g<n0))else(List.range n0).all fun k=>rchB ops ops.size i k)=true:=by
  intro i o ho
  have:=h2 i (by rw[List.mem_range]; exact(Array.getElem?_eq_some_iff.1 ho).1)
  rw[ho]at this
  simpa only[Bool.and_eq_true]using this
 refine⟨of_decide_eq_true h1,?_,?_,?_⟩
 · intro i o ho e he hb
   have:=(key i o ho).1
   rw[List.all_eq_true]at this
   have:=this e (by simpa using he)
   rw[hb]at this
   simpa using this
 · intro i o hi ho g w hg
   have:=(key i o ho).2
   rw[if_pos hi,hg]at this
   simpa using this
 · intro i o hi ho k hk
   have:=(key i o ho).2
   rw[if_neg (by omega),List.all_eq_true]at this
   exact this k (by rw[List.mem_range]; exact hk)
theorem getD_sz {listed:Array Bool} {i:Nat} (h:i<listed.size):listed.getD i true=listed.getD i false:=by
 simp[Array.getD_eq_getD_getElem?,Array.getElem?_eq_getElem h]
theorem ready_none {ops:Array Oper} (hedge:∀ i o,ops[i]? = some o->∀ e∈o.after,Region.binds .any e=true->e.on<i) {listed:Array Bool} (hsz:listed.size=ops.size) (hr:Region.ready .any ops listed=[]) :
 ∀ i,i<ops.size->listed.getD i false=true:=by
 intro i
 induction i using Nat.strongRecOn with
 | _ i ih =>
  intro hi
  cases h:listed.getD i false with
  | true=>rfl
  | false =>
   have:i∈Region.ready .any ops listed:=by
    rw[mem_ready]
    refine⟨by rw[getD_sz (by omega)]; exact h,ops[i],Array.getElem?_eq_getElem hi,fun e he hb => ?_⟩
    have:=hedge i ops[i] (Array.getElem?_eq_getElem hi) e he hb
    exact ih e.on this (by omega)
   rw[hr]at this; simp at this
theorem getD_set' {listed:Array Bool} {i k:Nat} (hi:i<listed.size):(listed.setIfInBounds i true).getD k false=if k=i then true else listed.getD k false:=by
 simp only[Array.getD_eq_getD_getElem?,Array.getElem?_setIfInBounds]
 by_cases h:i=k
 · subst h; simp[hi]
 · rw[if_neg h,if_neg (fun e=>h e.symm)]
theorem wpAny_tail {ops:Array Oper} {n0:Nat} (ht:TailWt ops n0) {Q1 Q:Exit->Act->World->Prop} (hq:∀ e a w,e≠.normal->Q1 e a w->Q e a w)
 (hn:∀ (fuel:Nat) (listed:Array Bool) (a:Act) (w:World),ops.size-n0≤fuel->listed.size=ops.size->(∀ i,i<n0->listed.getD i false=true)->(∀ i,n0≤i->listed.getD i false=false)->Q1 .normal a w->wpAny P .any ops Q fuel listed a w) :
 ∀ (fuel:Nat) (l1 listed:Array Bool) (a:Act) (w:World),l1.size=n0->listed.size=ops.size->(∀ i,i<n0->l1.getD i false=listed.getD i false)->(∀ i,n0≤i->listed.getD i false=false)->(∀ j o,listed.getD j false=true->ops[j]? = some o->∀ e∈o.after,Region.binds .any e=true->listed.getD e.on false=true) →
  wpAny P .any (ops.extract 0 n0) Q1 fuel l1 a w->wpAny P .any ops Q (fuel+(ops.size-n0)) listed a w:=by
 have hx:∀ i,(ops.extract 0 n0)[i]? = if i<n0 then ops[i]? else none:=by
  intro i
  rw[Array.getElem?_extract]
  have:=ht.le
  by_cases h:i<n0
  · rw[if_pos h,if_pos (by omega)]; simp
  · rw[if_neg h,if_neg (by omega)]
 have hxs:(ops.extract 0 n0).size=n0:=by have:=ht.le; simp; omega
 have hedge1:∀ i o,(ops.extract 0 n0)[i]? = some o->∀ e∈o.after,Region.binds .any e=true->e.on<i:=by
  intro i o ho
  rw[hx]at ho
  split at ho
  · exact ht.edge i o ho
  · cases ho
 intro fuel
 induction fuel with
 | zero =>
  intro l1 listed a w hs1 hs hl hu hcl h
  obtain⟨hr,hqn⟩:=h
  have hall:=ready_none hedge1 (by omega) hr
  exact hn _ listed a w (by omega) hs (fun i hi=>by rw[←hl i hi]; exact hall i (by omega)) hu hqn
 | succ fuel ih =>
  intro l1 listed a w hs1 hs hl hu hcl h
  obtain⟨h1,h2⟩:=h
  by_cases hr:Region.ready .any (ops.extract 0 n0) l1=[]
  · have hall:=ready_none hedge1 (by omega) hr
    exact hn _ listed a w (by omega) hs (fun i hi=>by rw[←hl i hi]; exact hall i (by omega)) hu (h1 hr)
  · have hle:=ht.le
    have hsome:∃ i,i<n0∧listed.getD i false=false:=by
     obtain⟨i,hi⟩:=List.exists_mem_of_ne_nil _ hr
     rw[mem_ready]at hi
     obtain⟨g1,o,ho,_⟩:=hi
     rw[hx]at ho
     by_cases hin:i<n0
     · rw[getD_sz (by omega)]at g1
       exact⟨i,hin,by rw[←hl i hin]; exact g1⟩
     · rw[if_neg hin]at ho; cases ho
    have hfu:fuel+1+(ops.size-n0)=(fuel+(ops.size-n0))+1:=by omega
    rw[hfu]
    refine⟨fun hr2 => ?_,fun i hi => ?_⟩
    · obtain⟨i,hin,hi⟩:=hsome
      have:=ready_none ht.edge hs hr2 i (by omega)
      rw[hi]at this; cases this
    · rw[mem_ready]at hi
      obtain⟨g1,o,ho,hdeps⟩:=hi
      have hin:i<n0:=by
       by_cases hin:i<n0
       · exact hin
       · obtain⟨k,hk,hku⟩:=hsome
         have:=rch_listed (L:=fun t=>listed.getD t false=true) hcl ops.size i k o ho (fun e he hb=>hdeps e he hb) (ht.all i o (by omega) ho k hk)
         rw[hku]at this; cases this
      have hi1:i∈Region.ready .any (ops.extract 0 n0) l1:=by
       rw[mem_ready]
       rw[getD_sz (by omega)]at g1
       refine⟨by rw[getD_sz (by omega),hl i hin]; exact g1,o,by rw[hx,if_pos hin]; exact ho,fun e he hb => ?_⟩
       rw[hl e.on (by have:=ht.edge i o ho e he hb; omega)]
       exact hdeps e he hb
      have h3:=h2 i hi1
      have hnext:∀ a' w',wpAny P .any (ops.extract 0 n0) Q1 fuel (l1.setIfInBounds i true) a' w'->wpAny P .any ops Q (fuel+(ops.size-n0)) (listed.setIfInBounds i true) a' w':=by
       intro a' w' h4
       refine ih _ _ a' w' (by simpa using hs1) (by simpa using hs) (fun k hk => ?_) (fun k hk => ?_) (fun m om hm hom e he hb => ?_) h4
       · rw[getD_set' (by omega),getD_set' (by omega),hl k hk]
       · rw[getD_set' (by omega),if_neg (by omega)]; exact hu k hk
       · rw[getD_set' (by omega)]at hm ⊢
         by_cases hei:e.on=i
         · rw[if_pos hei]
         · rw[if_neg hei]
           by_cases hmi:m=i
           · subst hmi
             rw[ho]at hom; cases hom
             exact hdeps e he hb
           · rw[if_neg hmi]at hm
             exact hcl m om hm hom e he hb
      unfold wpOp at h3 ⊢
      rw[ho]
      rw[hx,if_pos hin,ho]at h3
      simp only at h3 ⊢
      have hw:Region.wanted o (yielded (ops.extract 0 n0) a.tmps)=Region.wanted o (yielded ops a.tmps):=by
       unfold Region.wanted
       cases hg:o.guard with
       | none=>rfl
       | some gw =>
        obtain⟨g,wnt⟩:=gw
        have hgn:=ht.guard i o hin ho g wnt hg
        simp only[yielded,hx,if_pos hgn]
      rw[hw]at h3
      split at h3
      · rename_i hwt
        rw[if_pos hwt]
        exact Oper.wq_mono hnext hq h3
      · rename_i hwt
        rw[if_neg hwt]
        exact hnext _ _ h3
theorem step_wpOp' {ops:Array Oper} {Q:Exit->Act->World->Prop} {i:Nat} {o:Oper} {a:Act} {w:World} {next:Act->World->Prop} (ho:ops[i]? = some o) (h:StepOf P ops o a w next Q):wpOp P ops Q i next a w:=by
 unfold wpOp
 rw[ho]
 simp only
 unfold StepOf at h
 split
 · rename_i hw; rw[if_pos hw]at h; exact h
 · rename_i hw; rw[if_neg hw]at h; exact h
end
end Go.Ab
namespace Go.Ab
variable [GlobEnv] [FrEnv] [KnEnv]
def closed (H:List AO):Prop:=∀ (i:Nat) (o:AO),H[i]? = some o->∀ s∈o.cells,s.under H.length=true
theorem Sim.closed {S:St} (h:Sim S):closed S.H:=fun i o ho s hs=>(h.bel i o ho s hs).1
theorem VRs.map {S S':St} {l:List SV} {us:List Value} (h:VRs S l us) {f:SV->SV} (hf:∀ s v,VR S s v->VR S' (f s) v):VRs S' (l.map f) us:=by
 refine⟨by simp[h.1],?_⟩
 intro j s u h1 h2
 rw[List.getElem?_map]at h1
 cases hj:l[j]? with
 | none=>rw[hj]at h1; cases h1
 | some s0=>rw[hj]at h1; cases h1; exact hf s0 u (h.2 j s0 u hj h2)
def placeOf (ks:List Nat) (k:Nat):Option Nat :=
 match ks with
 | []=>none
 | x::r=>if x=k then some 0 else(placeOf r k).map (· + 1)
theorem placeOf_some {ks:List Nat} {k p:Nat} (h:placeOf ks k=some p):ks[p]? = some k:=by
 induction ks generalizing p with
 | nil=>simp[placeOf]at h
 | cons x r ih =>
  unfold placeOf at h
  split at h
  · rename_i hx; cases h; simp[hx]
  · cases hr:placeOf r k with
    | none=>rw[hr]at h; cases h
    | some q=>rw[hr]at h; cases h; simpa using ih hr
theorem placeOf_none {ks:List Nat} {k p:Nat} (h:placeOf ks k=none):ks[p]? ≠ some k:=by
 induction ks generalizing p with
 | nil=>simp
 | cons x r ih =>
  unfold placeOf at h
  split at h
  · cases h
  · rename_i hx
    cases hr:placeOf r k with
    | none=>cases p with
     | zero=>simpa using hx
     | succ p=>simpa using ih hr
    | some q=>rw[hr]at h; cases h
def SV.fz (n:Nat) (ks:List Nat) (L:List AO):Nat->SV->SV
 | 0,_=>.any
 | d+1,s =>
  if s.under n=true then s else
  match s with
  | .any=>.any
  | .val v=>.val v
  | .gd _ _=>.any
  | .slc cells len=>.slc (cells.map (SV.fz n ks L d)) len
  | .own i off len sz ver =>
   match L[i-n]? with
   | some o =>
    match placeOf ks (i-n)with
    | some p=>if o.ver=ver then .own (n+p) off len sz 0 else .any
    | none=>if o.live=true∧o.ver=ver∧off+len*sz≤o.cells.length then .slc (((o.cells.drop off).take (len*sz)).map (SV.fz n ks L d)) len else .any
   | none=>.any
  | .ptr (.own i off len sz ver) k =>
   match L[i-n]? with
   | some o =>
    match placeOf ks (i-n)with
    | some p=>if o.ver=ver then .ptr (.own (n+p) off len sz 0) k else .any
    | none=>if o.live=true∧o.ver=ver∧off<o.cells.length then .ptr (.slc ((o.cells.drop off).map (SV.fz n ks L d)) 0) k else .any
   | none=>.any
  | .ptr (.slc cells len) k=>.ptr (.slc (cells.map (SV.fz n ks L d)) len) k
  | .ptr _ _=>.any
  | .agg l=>.agg (l.map (SV.fz n ks L d))
  | .tup l=>.tup (l.map (SV.fz n ks L d))
  | .fn f x y=>.fn f (x.map (SV.fz n ks L d)) (y.map (SV.fz n ks L d))
  | .ifc t x=>.ifc t (SV.fz n ks L d x)
  | .yl _=>.any
  | .lp _ _ _=>.any
  | .mk _=>.any
  | .mp i ver =>
   match L[i-n]? with
   | some o =>
    match placeOf ks (i-n)with
    | some _=>.any
    | none=>if o.live=false∧o.ver=ver then(match o.cells with | .mk kk::vs=>.mpf kk (vs.map (SV.fz n ks L d)) | _=>.any)else .any
   | none=>.any
  | .mpf kk vs=>.mpf kk (vs.map (SV.fz n ks L d))
def keptO (n:Nat) (ks:List Nat) (L:List AO) (d:Nat):List AO :=
 ks.map fun k=>match L[k]? with
  | some o=>{ cells:=o.cells.map (SV.fz n ks L d),ty:=o.ty,ver:=0,live:=true }
  | none=>{ cells:=[],ty:=0,ver:=0,live:=false }
def keptOk (n:Nat) (ks:List Nat) (L:List AO) (d:Nat):List Nat->Prop
 | []=>True
 | k::r=>(match L[k]? with
  | some o=>o.live=true∧cellsOk (o.cells.map (SV.fz n ks L d))
  | none=>False)∧k∉r∧keptOk n ks L d r
section
variable {S:St} {H0 L:List AO} {ks:List Nat} {d0:Nat}
def keptρ (S:St) (n:Nat) (ks:List Nat):Nat->Option Nat:=fun i=>if i<n then S.ρ i else match ks[i-n]? with
 | some k=>S.ρ (n+k)
 | none=>none
def keptS (S:St) (H0 L:List AO) (ks:List Nat) (d:Nat):St:=⟨keptρ S H0.length ks,H0++keptO H0.length ks L d,S.w⟩
theorem keptOk_mem {n d:Nat}:∀ {l:List Nat},keptOk n ks L d l->∀ {p k:Nat},l[p]? = some k->∃ o,L[k]? = some o∧o.live=true∧cellsOk (o.cells.map (SV.fz n ks L d))
 | [],_,p,k,h=>by simp at h
 | x::r,h,p,k,hp=>by
  cases p with
  | zero =>
   simp at hp; subst hp
   have:=h.1
   cases hx:L[x]? with
   | none=>rw[hx]at this; exact this.elim
   | some o=>rw[hx]at this; exact⟨o,rfl,this⟩
  | succ p=>simp at hp; exact keptOk_mem h.2.2 hp
theorem keptOk_inj {n d:Nat}:∀ {l:List Nat},keptOk n ks L d l->∀ {p q k:Nat},l[p]? = some k->l[q]? = some k->p=q
 | [],_,p,q,k,h,_=>by simp at h
 | x::r,h,p,q,k,hp,hq=>by
  cases p with
  | zero =>
   cases q with
   | zero=>rfl
   | succ q=>simp at hp hq; subst hp; exact absurd (List.mem_of_getElem? hq) h.2.1
  | succ p =>
   cases q with
   | zero=>simp at hp hq; subst hq; exact absurd (List.mem_of_getElem? hp) h.2.1
   | succ q=>simp at hp hq; rw[keptOk_inj h.2.2 hp hq]
theorem keptS_at (hk:keptOk H0.length ks L d0 ks) {i:Nat} {o:AO} (h:(keptS S H0 L ks d0).H[i]? = some o) :
 (i<H0.length∧H0[i]? = some o∧keptρ S H0.length ks i=S.ρ i) ∨
 (∃ p k o',i=H0.length+p∧ks[p]? = some k∧L[k]? = some o'∧o'.live=true∧cellsOk o.cells ∧
  o={ cells:=o'.cells.map (SV.fz H0.length ks L d0),ty:=o'.ty,ver:=0,live:=true }∧keptρ S H0.length ks i=S.ρ (H0.length+k)):=by
 simp only[keptS]at h
 by_cases hi:i<H0.length
 · rw[List.getElem?_append_left hi]at h
   exact .inl ⟨hi,h,by simp[keptρ,hi]⟩
 · rw[List.getElem?_append_right (by omega)]at h
   unfold keptO at h
   rw[List.getElem?_map]at h
   cases hp:ks[i-H0.length]? with
   | none=>rw[hp]at h; cases h
   | some k =>
    rw[hp]at h
    obtain⟨o',h1,h2,h3⟩:=keptOk_mem hk hp
    simp only[Option.map_some,h1]at h
    cases h
    exact .inr ⟨i-H0.length,k,o',by omega,hp,h1,h2,h3,rfl,by simp[keptρ,hi,hp]⟩
theorem kept_rw (hS:S.H=H0++L) (hk:keptOk H0.length ks L d0 ks) {b:Nat} (h:(keptS S H0 L ks d0).rw b) :
 ∃ (i:Nat) (o:AO),S.H[i]? = some o∧o.own=true∧S.ρ i=some b∧(i<H0.length∨∃ p:Nat,ks[p]? = some (i-H0.length)):=by
 obtain⟨i,o,ho,hl,hρ⟩:=h
 change keptρ S H0.length ks i=some b at hρ
 rcases keptS_at hk ho with ⟨h1,h2,h3⟩ | ⟨p,k,o',rfl,h1,h2,h3,_,h4,h5⟩
 · exact⟨i,o,by rw[hS,List.getElem?_append_left h1]; exact h2,hl,by rw[←h3]; exact hρ,.inl h1⟩
 · refine⟨H0.length+k,o',by rw[hS,List.getElem?_append_right (by omega)]; simpa using h2,AO.own_live h3,by rw[←h5]; exact hρ,.inr ⟨p,by simpa using h1⟩⟩
theorem ext_kept (hS:S.H=H0++L) (hk:keptOk H0.length ks L d0 ks):Ext H0.length S (keptS S H0 L ks d0) where
 obj:=fun i o hi h=>⟨o,by
  show(H0++_)[i]? = _
  rw[List.getElem?_append_left hi]; rw[hS,List.getElem?_append_left hi]at h; exact h,Nat.le_refl _,fun _=>by show keptρ S H0.length ks i=_; simp[keptρ,hi]⟩
 imm:=fun k _ hnr=>⟨rfl,fun hr=>hnr (by obtain⟨i,o,h1,h2,h3,_⟩:=kept_rw hS hk hr; exact⟨i,o,h1,h2,h3⟩)⟩
 size:=Nat.le_refl _
 shape:=fun _ _ _ h=>h
 loops:=fun _ r h=>⟨r,h⟩
 os:=rfl
 tape:=rfl
 output:=rfl
theorem imm_kept (hS:S.H=H0++L) (hk:keptOk H0.length ks L d0 ks) {a:Addr} {us:List Value} (h:S.Imm a us):(keptS S H0 L ks d0).Imm a us :=
 ⟨h.1,fun hne hr=>h.2.1 hne (by obtain⟨i,o,h1,h2,h3,_⟩:=kept_rw hS hk hr; exact⟨i,o,h1,h2,h3⟩),h.2.2⟩
theorem ownAt_kept {n i p off len sz cap:Nat} {a:Option Addr} (h:S.OwnAt i off len sz a cap) (hρ:(keptS S H0 L ks d0).ρ p=S.ρ i) (_hn:n=0:=by rfl):(keptS S H0 L ks d0).OwnAt p off len sz a cap:=by
 unfold St.OwnAt at *
 rw[hρ]; exact h
theorem fz_rel (hsim:Sim S) (hS:S.H=H0++L) (hk:keptOk H0.length ks L d0 ks):∀ (d:Nat),d≤d0->∀ (s:SV) (v:Value),VR S s v->VR (keptS S H0 L ks d0) (s.fz H0.length ks L d) v:=by
 intro d
 induction d with
 | zero=>intro _ s v _; exact .any v
 | succ d ih =>
  intro hd s v h
  have ih:=ih (by omega)
  unfold SV.fz
  by_cases hu:s.under H0.length=true
  · rw[if_pos hu]; exact h.extB (ext_kept hS hk) (.inr hu)
  rw[if_neg hu]
  have row:∀ (i off:Nat) (o:AO) (b:Nat),¬ i<H0.length->S.H[i]? = some o->o.live=true->S.ρ i=some b->placeOf ks (i-H0.length)=none->∀ m,off+m≤o.cells.length →
   ∃ us,(keptS S H0 L ks d0).Imm ⟨b,off,none⟩ us∧VRs (keptS S H0 L ks d0) (((o.cells.drop off).take m).map (SV.fz H0.length ks L d)) us:=by
   intro i off o b hi ho hl hρ hp m hm
   have h1:=hsim.live i o ho hl
   rw[hρ]at h1
   obtain⟨us,rest,hh,hvr⟩:=h1
   have hlen:us.length=o.cells.length:=hvr.1
   refine⟨(us.drop off).take m,⟨?_,?_,fun _ _=>.inl ⟨_,_,hh⟩⟩,((hvr.drop off).take m).map ih⟩
   · intro j u hj
     rw[List.getElem?_take]at hj
     split at hj
     · rw[List.getElem?_drop]at hj
       have hadd:(⟨b,off,none⟩:Addr).add j=⟨b,off+j,none⟩:=by unfold Addr.add; split<;>simp_all
       rw[hadd]
       show S.w.cell? _=_
       unfold World.cell?
       simp only[hh,Option.isSome_none,Bool.false_eq_true,if_false]
       simp[List.getElem?_append_left (getElem?_lt hj),hj]
     · cases hj
   · intro hne hr
     obtain⟨i',o',ho',hl',hρ',hi'⟩:=kept_rw hS hk hr
     have e1:=hsim.inj i i' o o' b ho ho' (AO.own_live hl) hl' hρ hρ'
     subst e1
     rcases hi' with hi' | ⟨p,hi'⟩
     · exact hi hi'
     · exact placeOf_none hp hi'
  have hL:∀ {i:Nat} {o:AO},¬ i<H0.length->L[i-H0.length]? = some o->S.H[i]? = some o:=by
   intro i o hi ho; rw[hS,List.getElem?_append_right (by omega)]; exact ho
  have hρk:∀ {i p:Nat},¬ i<H0.length->placeOf ks (i-H0.length)=some p->(keptS S H0 L ks d0).ρ (H0.length+p)=S.ρ i:=by
   intro i p hi hp
   have:=placeOf_some hp
   show keptρ S H0.length ks (H0.length+p)=_
   simp only[keptρ]
   rw[if_neg (by omega)]
   have e:H0.length+p-H0.length=p:=by omega
   rw[e,this]
   show S.ρ _=_
   congr 1; omega
  have hok:∀ {i p:Nat},¬ i<H0.length->placeOf ks (i-H0.length)=some p->∃ o',(keptS S H0 L ks d0).H[H0.length+p]? = some o'∧o'.ver=0:=by
   intro i p hi hp
   have:=placeOf_some hp
   obtain⟨o,h1,h2,h3⟩:=keptOk_mem hk this
   refine⟨{ cells:=o.cells.map (SV.fz H0.length ks L d0),ty:=o.ty,ver:=0,live:=true },?_,rfl⟩
   · show(H0++keptO H0.length ks L d0)[H0.length+p]? = some { cells:=o.cells.map (SV.fz H0.length ks L d0),ty:=o.ty,ver:=0,live:=true }
     rw[List.getElem?_append_right (by omega)]
     unfold keptO
     rw[List.getElem?_map]
     have e:H0.length+p-H0.length=p:=by omega
     rw[e,this]
     simp[h1]
  cases h with
  | any v=>exact .any v
  | val v=>exact .val v
  | gd b x v h0 h=>exact .any v
  | nilslc=>simpa using VR.nilslc
  | slc cells len a cap us hc hl hi h =>
   have hm:=VRs.map (S:=S) (l:=cells) (us:=us) ⟨hl,h⟩ ih
   exact .slc _ len a cap us hc hm.1 (imm_kept hS hk hi) hm.2
  | own i off len sz ver a cap o ho hv hc hz hat =>
   have hi:¬ i<H0.length:=by simpa[SV.under]using hu
   simp only
   cases hLi:L[i-H0.length]? with
   | none=>exact .any _
   | some o2 =>
    have e2:=hL hi hLi
    rw[ho]at e2
    cases e2
    simp only
    cases hp:placeOf ks (i-H0.length)with
    | some p =>
     simp only
     split
     · rename_i hver
       obtain⟨o',h1,h2⟩:=hok hi hp
       exact .own _ off len sz 0 a cap o' h1 (by omega) hc hz fun _=>ownAt_kept (hat hver) (hρk hi hp)
     · exact .any _
    | none =>
     simp only
     split
     · rename_i hcond
       obtain⟨hl,hver,hlen⟩:=hcond
       have h2:=hat hver
       unfold St.OwnAt at h2
       cases hρ:S.ρ i with
       | none =>
        rw[hρ]at h2
        obtain⟨rfl,rfl⟩:=h2
        cases a with
        | none=>simpa using VR.nilslc
        | some a =>
         simp only[Nat.zero_mul,List.take_zero,List.map_nil]
         exact .slc [] 0 a 0 [] hc rfl ⟨fun j u hj=>by simp at hj,fun hne=>absurd rfl hne,imm_part0⟩ fun j s u hj=>by simp at hj
       | some b =>
        rw[hρ]at h2
        obtain⟨us,hi1,hi2⟩:=row i off o b hi ho hl hρ hp (len*sz) hlen
        cases a with
        | none =>
         have h0:=hz rfl
         subst h0
         have hc0:cap=0:=by
          rcases h2 with h2 | ⟨h2,_⟩
          · exact h2
          · cases h2
         subst hc0
         simpa using VR.nilslc
        | some a =>
         rcases h2 with h2 | ⟨h2,_⟩
         · have:len=0:=by omega
           subst this
           simp only[Nat.zero_mul,List.take_zero,List.map_nil]
           exact .slc [] 0 a cap [] hc rfl ⟨fun j u hj=>by simp at hj,fun hne=>absurd rfl hne,imm_part0⟩ fun j s u hj=>by simp at hj
         · cases h2
           exact .slc _ len _ cap us hc hi2.1 hi1 hi2.2
     · exact .any _
  | ptrI cells len k a us hl hi h =>
   have hm:=VRs.map (S:=S) (l:=cells) (us:=us) ⟨hl,h⟩ ih
   exact .ptrI _ len k a us hm.1 (imm_kept hS hk hi) hm.2
  | ptrO i off len sz ver k a o ho hv hat =>
   have hi:¬ i<H0.length:=by simpa[SV.under]using hu
   simp only
   cases hLi:L[i-H0.length]? with
   | none=>exact .any _
   | some o2 =>
    have e2:=hL hi hLi
    rw[ho]at e2
    cases e2
    simp only
    cases hp:placeOf ks (i-H0.length)with
    | some p =>
     simp only
     split
     · rename_i hver
       obtain⟨o',h1,h2⟩:=hok hi hp
       refine .ptrO _ off len sz 0 k a o' h1 (by omega) fun _ => ?_
       obtain⟨b,hb1,hb2⟩:=hat hver
       exact⟨b,(hρk hi hp).trans hb1,hb2⟩
     · exact .any _
    | none =>
     simp only
     split
     · rename_i hcond
       obtain⟨hl,hver,hlen⟩:=hcond
       obtain⟨b,hρ,rfl⟩:=hat hver
       obtain⟨us,hi1,hi2⟩:=row i off o b hi ho hl hρ hp (o.cells.length-off) (by omega)
       have e1:(o.cells.drop off).take (o.cells.length-off)=o.cells.drop off:=by rw[List.take_of_length_le]; simp
       rw[e1]at hi2
       have e2:(⟨b,off+k,none⟩:Addr)=(⟨b,off,none⟩:Addr).add k:=by unfold Addr.add; split<;>simp_all
       rw[e2]
       exact .ptrI _ 0 k _ us hi2.1 hi1 hi2.2
     · exact .any _
  | agg l us hl h=>exact VR.of_agg (VRs.map (S:=S) (l:=l) (us:=us) ⟨hl,h⟩ ih)
  | tup l us hl h=>exact VR.of_tup (VRs.map (S:=S) (l:=l) (us:=us) ⟨hl,h⟩ ih)
  | fn f x y us vs hl h hl' h'=>exact VR.fn_of (VRs.map (S:=S) (l:=x) (us:=us) ⟨hl,h⟩ ih) (VRs.map (S:=S) (l:=y) (us:=vs) ⟨hl',h'⟩ ih)
  | ifc t x v h=>exact .ifc t _ v (ih x v h)
  | yl i l o ho h=>exact .any _
  | mp i ver l o ho hv h =>
   have hi:¬ i<H0.length:=by simpa[SV.under]using hu
   simp only
   cases hLi:L[i-H0.length]? with
   | none=>exact .any _
   | some o2 =>
    have e2:=hL hi hLi
    rw[ho]at e2
    cases e2
    simp only
    cases hp:placeOf ks (i-H0.length)with
    | some p=>exact .any _
    | none =>
     simp only
     split
     · rename_i hcond
       obtain⟨hl,hver⟩:=hcond
       split
       · rename_i kk vs hcells
         obtain⟨l',x,m,us,env,k1,k2,k3,k4,k5⟩:=hsim.lp i o ho hl (by rw[hcells]; simp)
         rw[hcells]at k2
         obtain⟨rfl,rfl⟩:=List.cons.inj k2
         have hρ:=h hver
         rw[hρ]at k1; cases k1
         rcases k4.kind with ⟨r,rfl⟩ | ⟨es,cl,rfl⟩
         · exact k4.elim
         · obtain⟨rfl,rfl⟩:=k4
           have hm:=k5.map ih
           refine .mpf _ l es cl _ k3 (fun hr => ?_) rfl hm.1 hm.2
           obtain⟨i',o',ho',hl',hρ',hi'⟩:=kept_rw hS hk hr
           have e1:=hsim.inj i i' o o' l ho ho' (by simp[AO.own,hcells]) hl' hρ hρ'
           subst e1
           rcases hi' with hi' | ⟨p,hi'⟩
           · exact hi hi'
           · exact placeOf_none hp hi'
       · exact .any _
     · exact .any _
  | mpf vs l es cl us hb hn hu2 hl h =>
   have hm:=VRs.map (S:=S) (l:=vs) (us:=us) ⟨hl,h⟩ ih
   exact .mpf _ l es cl us hb (fun hr=>hn (by obtain⟨i',o',ho',hl',hρ',_⟩:=kept_rw hS hk hr; exact⟨i',o',ho',hl',hρ'⟩)) hu2 hm.1 hm.2
theorem sim_kept (hsim:Sim S) (hS:S.H=H0++L) (hcl:closed H0) (hk:keptOk H0.length ks L d0 ks):Sim (keptS S H0 L ks d0):=by
 have hlive:∀ (i:Nat) (o:AO),(keptS S H0 L ks d0).H[i]? = some o->o.live=true →
  match (keptS S H0 L ks d0).ρ i with
  | none=>o.cells=[]
  | some b=>∃ us rest,S.w.heap[b]? = some (.cells (us++rest).toArray o.ty (0,0))∧VRs (keptS S H0 L ks d0) o.cells us:=by
  intro i o ho hl
  show match keptρ S H0.length ks i with
   | none=>o.cells=[]
   | some b=>_
  rcases keptS_at hk ho with ⟨h1,h2,h3⟩ | ⟨p,k,o',rfl,h1,h2,h3,_,rfl,h5⟩
  · rw[h3]
    have h4:=hsim.live i o (by rw[hS,List.getElem?_append_left h1]; exact h2) hl
    cases hρ:S.ρ i with
    | none=>rw[hρ]at h4; exact h4
    | some b =>
     rw[hρ]at h4
     obtain⟨us,rest,h5,h6⟩:=h4
     exact⟨us,rest,h5,h6.extB (ext_kept hS hk) ((SV.underL_iff _ _).2 (hcl i o h2))⟩
  · rw[h5]
    have h4:=hsim.live (H0.length+k) o' (by rw[hS,List.getElem?_append_right (by omega)]; simpa using h2) h3
    cases hρ:S.ρ (H0.length+k)with
    | none=>rw[hρ]at h4; simp only; rw[h4]; rfl
    | some b =>
     rw[hρ]at h4
     obtain⟨us,rest,h6,h7⟩:=h4
     exact⟨us,rest,h6,h7.map (fz_rel hsim hS hk d0 (Nat.le_refl _))⟩
 refine⟨hlive,?_,?_,?_,hsim.gl.ext (ext_kept hS hk),hsim.kf.ext (ext_kept hS hk)⟩
 · intro i o ho s hs
   rcases keptS_at hk ho with ⟨h1,h2,h3⟩ | ⟨p,k,o',rfl,h1,h2,h3,h6,rfl,h5⟩
   · refine⟨?_,(hsim.bel i o (by rw[hS,List.getElem?_append_left h1]; exact h2) s hs).2⟩
     exact SV.under_mono (by show _≤(H0++_).length; simp) s (hcl i o h2 s hs)
   · refine⟨?_,fun _=>h6 s hs⟩
     have h8:=hlive _ _ ho rfl
     split at h8
     · rw[h8]at hs; cases hs
     · obtain⟨us,rest,h9,h10⟩:=h8
       obtain⟨j,hj⟩:=List.getElem?_of_mem hs
       obtain⟨u,_,h11⟩:=h10.get hj
       exact h11.under
 · intro i j o o' b hi hj hl hl' hρ hρ'
   change keptρ S H0.length ks i=some b at hρ
   change keptρ S H0.length ks j=some b at hρ'
   rcases keptS_at hk hi with ⟨h1,h2,h3⟩ | ⟨p,k,o1,rfl,h1,h2,h3,_,rfl,h5⟩<;>rcases keptS_at hk hj with ⟨g1,g2,g3⟩ | ⟨q,k',o2,rfl,g1,g2,g3,_,rfl,g5⟩
   · exact hsim.inj i j o o' b (by rw[hS,List.getElem?_append_left h1]; exact h2) (by rw[hS,List.getElem?_append_left g1]; exact g2) hl hl' (by rw[←h3]; exact hρ) (by rw[←g3]; exact hρ')
   · have:=hsim.inj i (H0.length+k') o o2 b (by rw[hS,List.getElem?_append_left h1]; exact h2) (by rw[hS,List.getElem?_append_right (by omega)]; simpa using g2) hl (AO.own_live g3) (by rw[←h3]; exact hρ) (by rw[←g5]; exact hρ')
     omega
   · have:=hsim.inj (H0.length+k) j o1 o' b (by rw[hS,List.getElem?_append_right (by omega)]; simpa using h2) (by rw[hS,List.getElem?_append_left g1]; exact g2) (AO.own_live h3) hl' (by rw[←h5]; exact hρ) (by rw[←g3]; exact hρ')
     omega
   · have:=hsim.inj (H0.length+k) (H0.length+k') o1 o2 b (by rw[hS,List.getElem?_append_right (by omega)]; simpa using h2) (by rw[hS,List.getElem?_append_right (by omega)]; simpa using g2) (AO.own_live h3) (AO.own_live g3) (by rw[←h5]; exact hρ) (by rw[←g5]; exact hρ')
     have e:k=k':=by omega
     subst e
     rw[keptOk_inj hk h1 g1]
 · intro i o ho hl hne
   rcases keptS_at hk ho with ⟨h1,h2,h3⟩ | ⟨p,k,o',rfl,h1,h2,h3,h6,rfl,h5⟩
   · obtain⟨l,x,m,us,env,k1,k2,k3,k4,k6⟩:=hsim.lp i o (by rw[hS,List.getElem?_append_left h1]; exact h2) hl hne
     have hu:=hcl i o h2
     rw[k2]at hu
     exact⟨l,x,m,us,env,h3.trans k1,k2,k3,k4,k6.extB (ext_kept hS hk) ((SV.underL_iff _ _).2 fun s hs=>hu s (by simp[hs]))⟩
   · cases hl
end
end Go.Ab
namespace Go.Ab
variable [GlobEnv] [FrEnv] [KnEnv]
theorem run_enterLoop_inner {P:Program} {w:World} {l:Nat} {r:Loop} (h:w.heap[l]? = some (Obj.loop r)) (fn:FuncId) (tmps:Array Value) (ps:Array Tmp) (assign body:Code) :
 (Instr.enterLoop fn tmps ps assign body (some l)).run P w =
  .ok (w.heap.size,[]) (w.alloc (.loop { state:=.ready,pending:=none,fn,tmps,params:=ps,assign,body,defers:=r.defers })):=by
 unfold Instr.enterLoop
 simp only[Sem.run_bind,run_getLoop h,run_newObj_alloc,Result.andThen,Sem.run_pure]
end Go.Ab
namespace Go.Ab
variable [GlobEnv] [FrEnv] [KnEnv]
def pureI (o:Ins):Bool:=match o.j with | .p _=>true | _=>false
def pickI (l:List Ins) (o:List Nat):List Ins:=o.filterMap fun i=>l[i]?
def xre (P:Program) (l:List Ins):List (List Nat)->Env->List AO->(XE->Env->List AO->Prop)->Prop
 | [],_,_,_=>True
 | o::r,env,H,K=>xops P (pickI l o) env H K∧xre P l r env H K
def compB (ops:Array Oper) (os:List (List Nat)):Nat->List Nat->Array Bool->Bool
 | 0,p,listed=>(Region.ready .any ops listed).isEmpty&&os.any (· == p)
 | n+1,p,listed=>if(Region.ready .any ops listed).isEmpty then os.any (· == p)else
  (Region.ready .any ops listed).all fun i=>os.any (fun o=>(p++[i]).isPrefixOf o)&&compB ops os n (p++[i]) (listed.setIfInBounds i true)
section
variable {P:Program} {N:Nat} {db:DB}
theorem xo_pure {o:Ins} (h:pureI o=true) (env:Env) (H:List AO):∃ (side:Prop) (env':Env),∀ K:XE->Env->List AO->Prop,xo P o env H K↔side∧K .normal env' H:=by
 unfold pureI at h
 split at h
 · rename_i i hj
   cases hg:o.g with
   | none=>exact⟨(pv i env.ev H).1,env.put o.d (pv i env.ev H).2,fun K=>by simp only[xo,xj,hg,hj]⟩
   | some sw =>
    obtain⟨s,want⟩:=sw
    exact⟨(env.get s).bish=true∧((env.get s).on want=true->(pv i env.ev H).1),env.put o.d (.gd ((env.get s).on want) (pv i env.ev H).2),fun K=>by simp only[xo,hg,hj,and_assoc]⟩
 · cases h
theorem chkL_get {ops:Array Oper}:∀ {l:List Oper} {l':List Ins} {i:Nat} {o:Oper},chkL P N ops l l'=true->l[i]? = some o->∃ o',l'[i]? = some o'∧chkIns P N ops o o'=true
 | [],_,i,o,_,h=>by simp at h
 | _::_,[],i,o,hc,h=>by simp[chkL]at hc
 | x::l,y::l',0,o,hc,h=>by
  simp only[chkL,Bool.and_eq_true]at hc
  simp at h; subst h
  exact⟨y,rfl,hc.1⟩
 | x::l,y::l',i+1,o,hc,h=>by
  simp only[chkL,Bool.and_eq_true]at hc
  simpa using chkL_get hc.2 (by simpa using h)
theorem compB_more {ops:Array Oper} {os:List (List Nat)}:∀ (n:Nat) (p:List Nat) (listed:Array Bool),compB ops os n p listed=true->compB ops os (n+1) p listed=true
 | 0,p,listed,h=>by
  simp only[compB,Bool.and_eq_true]at h
  rw[compB,if_pos h.1]; exact h.2
 | n+1,p,listed,h=>by
  rw[compB]at h
  rw[compB]
  by_cases he:(Region.ready .any ops listed).isEmpty=true
  · rw[if_pos he]at h ⊢; exact h
  · rw[if_neg he]at h ⊢
    rw[List.all_eq_true]at h ⊢
    intro i hi
    have:=h i hi
    rw[Bool.and_eq_true]at this ⊢
    exact⟨this.1,compB_more n _ _ this.2⟩
theorem compB_add {ops:Array Oper} {os:List (List Nat)} {n:Nat} {p:List Nat} {listed:Array Bool} (h:compB ops os n p listed=true):∀ d,compB ops os (n+d) p listed=true
 | 0=>h
 | d+1=>compB_more _ _ _ (compB_add h d)
theorem wpAny_post {md:Region.Mode} {ops:Array Oper} {Q Q':Exit->Act->World->Prop} (hq:∀ e a w,Q e a w->Q' e a w):∀ (fuel:Nat) (listed:Array Bool) (a:Act) (w:World),wpAny P md ops Q fuel listed a w->wpAny P md ops Q' fuel listed a w
 | 0,_,_,_,h=>⟨h.1,hq _ _ _ h.2⟩
 | fuel+1,listed,a,w,h=>by
  refine⟨fun hr=>hq _ _ _ (h.1 hr),fun i hi => ?_⟩
  have h3:=h.2 i hi
  unfold wpOp at h3 ⊢
  cases ho:ops[i]? with
  | none=>rw[ho]at h3; exact wpAny_post hq fuel _ _ _ h3
  | some o =>
   rw[ho]at h3
   simp only at h3 ⊢
   split at h3
   · rename_i hwt
     rw[if_pos hwt]
     exact Oper.wq_mono (fun a' w' h=>wpAny_post hq fuel _ a' w' h) (fun e a w _ h=>hq e a w h) h3
   · rename_i hwt
     rw[if_neg hwt]
     exact wpAny_post hq fuel _ _ _ h3
def detI (o:Ins):Bool:=match o.j with | .p _=>true | .e (.st _ _ _)=>o.g.isNone | .e (.stw _ _ _ _)=>o.g.isNone | _=>false
theorem xo_det {o:Ins} (h:detI o=true) (env:Env) (H:List AO):∃ (side:Prop) (env':Env) (H':List AO),∀ K:XE->Env->List AO->Prop,xo P o env H K↔side∧K .normal env' H':=by
 obtain⟨d,g,j⟩:=o
 unfold detI at h
 simp only at h
 split at h
 · obtain⟨side,env',hx⟩:=xo_pure (P:=P) (o:=⟨d,g,.p _⟩) rfl env H
   exact⟨side,env',H,hx⟩
 · rename_i n p x
   have hg:g=none:=by cases g with | none=>rfl | some _=>cases h
   subst hg
   have key:∀ K:XE->Env->List AO->Prop,xo P ⟨d,none,.e (.st n p x)⟩ env H K↔((env.ev p).vd=true∧(env.ev x).vd=true∧cellsOk (env.ev x).ug.flat∧(env.ev x).ug.flat.length=n∧0<n ∧
    match (env.ev p).ug with
    | .ptr (.own i off _ _ ver) k=>off+k+n≤(objCells H i ver).length∧K .normal (env.put d (.val undef)) (setObj H i fun o=>o.put (off+k) (env.ev x).ug.flat)
    | _=>False):=fun K=>Iff.rfl
   by_cases hp:∃ i off a b ver k,(env.ev p).ug=.ptr (.own i off a b ver) k
   · obtain⟨i,off,a,b,ver,k,hp⟩:=hp
     refine⟨(env.ev p).vd=true∧(env.ev x).vd=true∧cellsOk (env.ev x).ug.flat∧(env.ev x).ug.flat.length=n∧0<n∧off+k+n≤(objCells H i ver).length,env.put d (.val undef),setObj H i fun o=>o.put (off+k) (env.ev x).ug.flat,fun K => ?_⟩
     rw[key]
     rw[hp]
     simp only[and_assoc]
   · refine⟨False,env,H,fun K => ?_⟩
     rw[key]
     constructor
     · rintro⟨_,_,_,_,_,h6⟩
       split at h6
       · rename_i hh; exact absurd ⟨_,_,_,_,_,_,hh⟩ hp
       · exact h6.elim
     · exact fun h=>h.1.elim
 · rename_i ws n p x
   have hg:g=none:=by cases g with | none=>rfl | some _=>cases h
   subst hg
   have key:∀ K:XE->Env->List AO->Prop,xo P ⟨d,none,.e (.stw ws n p x)⟩ env H K↔((env.ev p).vd=true∧(env.ev x).vd=true∧cellsOk (env.ev x).ug.flat∧(env.ev x).ug.flat.length=n∧0<n ∧
    match (env.ev p).ug with
    | .ptr (.own i off _ _ ver) k=>off+k+n≤(objCells H i ver).length∧K .normal (env.put d (.val undef)) (setObj H i fun o=>o.put (off+k) (env.ev x).ug.flat)
    | _=>False):=fun K=>Iff.rfl
   by_cases hp:∃ i off a b ver k,(env.ev p).ug=.ptr (.own i off a b ver) k
   · obtain⟨i,off,a,b,ver,k,hp⟩:=hp
     refine⟨(env.ev p).vd=true∧(env.ev x).vd=true∧cellsOk (env.ev x).ug.flat∧(env.ev x).ug.flat.length=n∧0<n∧off+k+n≤(objCells H i ver).length,env.put d (.val undef),setObj H i fun o=>o.put (off+k) (env.ev x).ug.flat,fun K => ?_⟩
     rw[key]
     rw[hp]
     simp only[and_assoc]
   · refine⟨False,env,H,fun K => ?_⟩
     rw[key]
     constructor
     · rintro⟨_,_,_,_,_,h6⟩
       split at h6
       · rename_i hh; exact absurd ⟨_,_,_,_,_,_,hh⟩ hp
       · exact h6.elim
     · exact fun h=>h.1.elim
 · cases h
def pickT (n0:Nat) (l:List Ins) (o:List Nat):List Ins:=o.filterMap fun i=>l[i-n0]?
def xrt (P:Program) (n0:Nat) (l:List Ins):List (List Nat)->Env->List AO->(XE->Env->List AO->Prop)->Prop
 | [],_,_,_=>True
 | o::r,env,H,K=>xops P (pickT n0 l o) env H K∧xrt P n0 l r env H K
theorem xrt_all {n0:Nat} {l:List Ins} {env:Env} {H:List AO} {K:XE->Env->List AO->Prop}:∀ {os:List (List Nat)},xrt P n0 l os env H K->∀ o∈os,xops P (pickT n0 l o) env H K
 | [],_,o,ho=>by simp at ho
 | x::r,h,o,ho=>by
  rw[List.mem_cons]at ho
  rcases ho with rfl | ho
  · exact h.1
  · exact xrt_all h.2 o ho
theorem drq_sound {ops:Array Oper} {n0:Nat} {os:List (List Nat)} {l:List Ins} {S:St} {K:XE->Env->List AO->Prop} (hc:chkL P N ops (ops.toList.drop n0) l=true) (hp:l.all detI=true) :
 ∀ (fuel:Nat) (p:List Nat) (listed:Array Bool) (S':St) (env:Env) (a:Act),compB ops os fuel p listed=true->listed.size=ops.size->(∀ i,i<n0->listed.getD i false=true)->(∀ rest,p++rest∈os->xops P (pickT n0 l rest) env S'.H K) →
  Ext S.H.length S S'->Sim S'->EnvR S' env a.tmps->a.tmps.size=N->db.Ok S'.w a.defers->wpAny P .any ops (Post S N db K) fuel listed a S'.w:=by
 intro fuel
 have hmem:∀ {p:List Nat},os.any (· == p)=true->p∈os:=by
  intro p h
  rw[List.any_eq_true]at h
  obtain⟨x,hx,he⟩:=h
  rw[←eq_of_beq he]; exact hx
 have done:∀ (p:List Nat) (S':St) (env:Env) (a:Act),os.any (· == p)=true->(∀ rest,p++rest∈os->xops P (pickT n0 l rest) env S'.H K) →
  Ext S.H.length S S'->Sim S'->EnvR S' env a.tmps->a.tmps.size=N->db.Ok S'.w a.defers->Post S N db K .normal a S'.w :=
  fun p S' env a h hx he hS henv hN hd=>⟨.normal,env,S'.ρ,S'.H,trivial,he,hS,henv,hN,hd,hx [] (by simpa using hmem h)⟩
 induction fuel with
 | zero =>
  intro p listed S' env a hcm hsz hl hx he hS henv hN hd
  simp only[compB,Bool.and_eq_true,List.isEmpty_iff]at hcm
  exact⟨hcm.1,done p S' env a hcm.2 hx he hS henv hN hd⟩
 | succ n ih =>
  intro p listed S' env a hcm hsz hl hx he hS henv hN hd
  simp only[compB]at hcm
  refine⟨fun hr => ?_,fun i hi => ?_⟩
  · rw[hr]at hcm
    exact done p S' env a (by simpa using hcm) hx he hS henv hN hd
  · rw[if_neg (by intro h; rw[List.isEmpty_iff]at h; rw[h]at hi; simp at hi),List.all_eq_true]at hcm
    have h1:=hcm i hi
    rw[Bool.and_eq_true]at h1
    rw[mem_ready]at hi
    obtain⟨g1,o,ho,hdeps⟩:=hi
    have hlt:=(Array.getElem?_eq_some_iff.1 ho).1
    have hin:n0≤i:=by
     rcases Nat.lt_or_ge i n0 with h | h
     · have:=hl i h
       rw[getD_sz (by omega),this]at g1; cases g1
     · exact h
    obtain⟨o',ho',hins⟩:=chkL_get hc (i:=i-n0) (by rw[List.getElem?_drop,show n0+(i-n0)=i by omega]; simpa using ho)
    have hpu:detI o'=true:=by rw[List.all_eq_true]at hp; exact hp o' (List.mem_of_getElem? ho')
    obtain⟨side,env',H1,hxo⟩:=xo_det (P:=P) hpu env S'.H
    have hpick:∀ rest,pickT n0 l (i::rest)=o'::pickT n0 l rest:=fun rest=>by simp[pickT,ho']
    have hrest:∀ rest,p++(i::rest)∈os->side∧xops P (pickT n0 l rest) env' H1 K:=by
     intro rest hm
     have h2:=hx (i::rest) hm
     rw[hpick]at h2
     simp only[xops]at h2
     exact(hxo _).1 h2
    have hside:side:=by
     have h2:=h1.1
     rw[List.any_eq_true]at h2
     obtain⟨x,hx1,hx2⟩:=h2
     rw[List.isPrefixOf_iff_prefix]at hx2
     obtain⟨t,ht⟩:=hx2
     refine(hrest t ?_).1
     rw[show p++i::t=p++[i]++t by simp,ht]; exact hx1
    refine step_wpOp' ho (xo_sound (Q:=Post S N db K) (K:=fun x e h=>x=.normal∧e=env'∧h=H1) hS henv hN hd hins ((hxo _).2 ⟨hside,rfl,rfl,rfl⟩) ?_ ?_)
    · rintro a' w' ⟨x,env1,ρ',H',hx',hext,hsim,henv',hN',hd',rfl,rfl,rfl⟩
      refine ih (p++[i]) _ ⟨ρ',H',w'⟩ env1 a' h1.2 (by simpa using hsz) (fun k hk => ?_) (fun rest hm => ?_) (he.trans (hext.mono (he.len (Nat.le_refl _)))) hsim henv' hN' hd'
      · rw[getD_set' (by omega),if_neg (by omega)]; exact hl k hk
      · exact(hrest rest (by rw[show p++i::rest=p++[i]++rest by simp]; exact hm)).2
    · rintro ch a' w' ⟨x,env1,ρ',H',hx',hext,hsim,henv',hN',hd',rfl,_⟩
      simp only[ER]at hx'
end
end Go.Ab
namespace Go.Ab
variable [GlobEnv] [FrEnv] [KnEnv]
def covB (ops:Array Oper) (l:List Ins):Bool:=ops.toList.all fun o=>o.dst.isNone||l.any fun i=>i.d==o.dst
def offE:List Ins->Env->Env
 | [],e=>e
 | i::r,e=>(offE r e).put i.d .any
theorem offE_in {e:Env} {t:Nat}:∀ {l:List Ins},(∃ i∈l,i.d=some t)->(offE l e).get t=.any
 | [],⟨_,h,_⟩=>by simp at h
 | i::r,⟨j,h,hj⟩=>by
  simp only[offE]
  by_cases hi:i.d=some t
  · rw[hi]; simp[Env.put,Env.get]
  · have h2:(offE r e).get t=.any:=by
     rcases List.mem_cons.1 h with rfl | h
     · exact absurd hj hi
     · exact offE_in ⟨j,h,hj⟩
    cases hd:i.d with
    | none=>simpa[Env.put]using h2
    | some k =>
     have:k≠t:=fun e=>hi (by rw[hd,e])
     simp[Env.put,Env.get,this,h2]
theorem offE_out {e:Env} {t:Nat}:∀ {l:List Ins},(∀ i∈l,i.d≠some t)->(offE l e).get t=e.get t
 | [],_=>rfl
 | i::r,h=>by
  simp only[offE]
  have h2:=offE_out (e:=e) (t:=t) (l:=r) fun j hj=>h j (by simp[hj])
  have hi:=h i (by simp)
  cases hd:i.d with
  | none=>simpa[Env.put]using h2
  | some k =>
   have:k≠t:=fun e=>hi (by rw[hd,e])
   simp[Env.put,Env.get,this,h2]
def offA (ops:Array Oper) (a a':Act):Prop:=∀ t,(∀ o∈ops.toList,o.dst≠some t)->a'.tmps.getD t undef=a.tmps.getD t undef
theorem offA.put {ops:Array Oper} {a a':Act} {o:Oper} (h:offA ops a a') {i:Nat} (ho:ops[i]? = some o) (v:Value):offA ops a (a'.put o.dst v):=by
 intro t ht
 have hmem:o∈ops.toList:=by rw[Array.mem_toList_iff]; exact Array.mem_of_getElem? ho
 have hne:=ht o hmem
 rw[←h t ht]
 cases hd:o.dst with
 | none=>rfl
 | some k =>
  have:k≠t:=fun e=>hne (by rw[hd,e])
  simp[Act.put,Array.getD_eq_getD_getElem?,Array.getElem?_setIfInBounds,this]
section
variable {P:Program} {ops:Array Oper} {Q:Exit->Act->World->Prop} {a0:Act}
def offQ (ops:Array Oper) (a0:Act) (Q:Exit->Act->World->Prop):Exit->Act->World->Prop:=fun e a w=>Q e a w∧(e≠.outgrown->offA ops a0 a)
theorem letsOut_off (h:LetsOut Q):LetsOut (offQ ops a0 Q):=by
 obtain⟨a,w,h⟩:=h
 exact⟨a,w,h,fun h=>absurd rfl h⟩
theorem wpOp_off {i:Nat} {K K':Act->World->Prop} {a:Act} {w:World} (h:wpOp P ops Q i K a w) (ha:offA ops a0 a) (hK:∀ a' w',offA ops a0 a'->K a' w'->K' a' w'):wpOp P ops (offQ ops a0 Q) i K' a w:=by
 unfold wpOp at *
 cases ho:ops[i]? with
 | none=>rw[ho]at h; exact hK _ _ ha h
 | some o =>
  rw[ho]at h
  simp only at h ⊢
  split
  · rename_i hw
    rw[if_pos hw]at h
    unfold Oper.wq at *
    generalize (execOp a.eval o).run P w=r at *
    cases r with
    | ok n w' =>
     cases n<;>simp only[Oper.uponIn]at h ⊢ <;> first | exact hK _ _ (ha.put ho _) h | exact hK _ _ (offA.put (a':={ a with defers:=_::a.defers }) ha ho _) h | exact⟨h.1,RowsIn.mono h.2 fun v w'' hv=>hK _ _ (ha.put ho v) hv⟩ | (refine⟨h.1,CallsIn.mono h.2 fun e w'' he => ?_⟩; cases e<;>first | exact hK _ _ (ha.put ho _) he | exact⟨he,fun _=>ha⟩ | exact letsOut_off he) | (refine⟨h.1,RoundIn.mono h.2 fun e w'' he => ?_⟩; cases e<;>first | exact hK _ _ (ha.put ho _) he | exact⟨he,fun _=>ha⟩ | exact letsOut_off he)
    | halt hh w' =>
     cases hh<;>simp only[Oper.uponIn]at h ⊢ <;> exact⟨h,fun _=>ha⟩
  · rename_i hw
    rw[if_neg hw]at h
    exact hK _ _ (ha.put ho _) h
theorem wpAny_off {md:Region.Mode}:∀ (fuel:Nat) (listed:Array Bool) (a:Act) (w:World),wpAny P md ops Q fuel listed a w->offA ops a0 a->wpAny P md ops (offQ ops a0 Q) fuel listed a w
 | 0,listed,a,w,h,ha=>⟨h.1,h.2,fun _=>ha⟩
 | fuel+1,listed,a,w,h,ha=>⟨fun hr=>⟨h.1 hr,fun _=>ha⟩,fun i hi=>wpOp_off (h.2 i hi) ha fun a' w' ha' h'=>wpAny_off fuel _ a' w' h' ha'⟩
theorem Post.off {S:St} {N:Nat} {db:DB} {K:XE->Env->List AO->Prop} {l:List Ins} {env:Env} {e:Exit} {a:Act} {w:World} (hS:EnvR S env a0.tmps) (hc:covB ops l=true)
 (h:offQ ops a0 (Post S N db fun x e H=>match x with | .normal=>K .normal e H | x=>K x (offE l env) H) e a w):Post S N db K e a w:=by
 obtain⟨⟨x,env',ρ,H,h1,h2,h3,h4,h5,h6,h7⟩,h8⟩:=h
 have main:e≠.outgrown->EnvR ⟨ρ,H,w⟩ (offE l env) a.tmps:=fun hne=>by
  have hoff:=h8 hne
  refine⟨fun t => ?_⟩
  by_cases ht:∃ i∈l,i.d=some t
  · rw[offE_in ht]; exact .any _
  · rw[offE_out fun i hi h=>ht ⟨i,hi,h⟩,hoff t fun o ho hd => ?_]
    · exact(hS.ext h2).get t
    · unfold covB at hc
      rw[List.all_eq_true]at hc
      have:=hc o ho
      rw[hd]at this
      simp only[Option.isNone_some,Bool.false_or,List.any_eq_true,beq_iff_eq]at this
      exact ht this
 cases x with
 | normal=>exact⟨.normal,env',ρ,H,h1,h2,h3,h4,h5,h6,h7⟩
 | _ =>
  refine⟨_,_,ρ,H,h1,h2,h3,main ?_,h5,h6,h7⟩
  rintro rfl
  simp[ER]at h1
end
end Go.Ab
namespace Go.Ab
variable [GlobEnv] [FrEnv] [KnEnv]
inductive IC where
 | skip
 | reg (l:List Ins)
 | drw (ns:List Nat) (l:List Ins)
 | drq (Ts:List TypeId) (n0:Nat) (ns:List Nat) (l:List Ins) (os:List (List Nat)) (tl:List Ins)
 | seq (a b:IC)
 | cond (c:Od) (a b:IC)
 | blk (id:Nat) (a:IC)
 | loop (a:IC)
 | exit (id:Nat)
 | ret
 | keep (ks:List Nat) (a:IC)
 | rng (k:Nat) (g:Od) (ps:List Nat) (ia ib:IC)
 | scp (a:IC)
 | lab
 | no
def Env.keep (e:Env) (ks:List Nat):Env:=ks.map fun k=>(k,e.get k)
theorem Env.get_keep (e:Env) (ks:List Nat) (t:Nat):(e.keep ks).get t=e.get t∨(e.keep ks).get t=.any:=by
 induction ks with
 | nil=>right; rfl
 | cons k r ih =>
  simp only[Env.keep,List.map_cons,Env.get]
  by_cases h:k=t
  · rw[if_pos h,h]; left; rfl
  · rw[if_neg h]; exact ih
theorem EnvR.keep {S:St} {e:Env} {tmps:Array Value} (h:EnvR S e tmps) (ks:List Nat):EnvR S (e.keep ks) tmps:=by
 refine⟨fun t => ?_⟩
 rcases e.get_keep ks t with h1 | h1<;>rw[h1]
 · exact h.get t
 · exact .any _
def dreK (l:List Ins) (env:Env):List Nat:=l.filterMap (·.d)++env.map Prod.fst
def W (P:Program) (N:Nat) (c:Code) (env:Env) (H:List AO) (K:XE->Env->List AO->Prop):Prop :=
 ∀ (db:DB) (S:St) (a:Act),S.H=H->Sim S->EnvR S env a.tmps->a.tmps.size=N->db.Ok S.w a.defers->c.wq db.ro P (Post S N db K) a S.w
def St.newRes (S:St) (T:TypeId):St:=⟨upd S.ρ S.H.length none,S.H++[⟨[],T,0,false⟩],S.w⟩
theorem ext_newRes (S:St) (T:TypeId):Ext S.H.length S (S.newRes T) where
 obj:=by
  intro i o hi ho
  refine⟨o,?_,Nat.le_refl _,fun _=>upd_ne _ _ (by omega)⟩
  show(S.H++_)[i]? = _
  rw[List.getElem?_append_left hi]; exact ho
 imm:=by
  intro k hk hn
  refine⟨rfl,?_⟩
  rintro⟨i,o,ho,hl,hρ⟩
  simp only[St.newRes]at ho hρ
  by_cases hi:i=S.H.length
  · subst hi; rw[upd_same]at hρ; cases hρ
  · rw[upd_ne _ _ hi]at hρ
    have hi':i<S.H.length:=by have:=getElem?_lt ho; simp at this; omega
    rw[List.getElem?_append_left hi']at ho
    exact hn ⟨i,o,ho,hl,hρ⟩
 size:=Nat.le_refl _
 shape:=fun _ _ _ h=>h
 loops:=fun _ r h=>⟨r,h⟩
 os:=rfl
 tape:=rfl
 output:=rfl
theorem sim_newRes {S:St} (h:Sim S) (T:TypeId):Sim (S.newRes T):=by
 refine h.step (ext_newRes S T) (by simp[St.newRes]) ?_ ?_
 · intro i o ho
   by_cases hi:i=S.H.length
   · subst hi
     have:o=⟨[],T,0,false⟩:=by simpa[St.newRes]using ho.symm
     subst this
     refine .inr ⟨fun _ => ?_,fun s hs=>by simp at hs,fun _ hc=>absurd rfl hc⟩
     simp only[St.newRes,upd_same]
   · have hi':i<S.H.length:=by have:=getElem?_lt ho; simp[St.newRes]at this; omega
     refine .inl ⟨?_,upd_ne _ _ hi,fun b hb hl=>rfl⟩
     simp only[St.newRes]at ho; rw[List.getElem?_append_left hi']at ho; exact ho
 · intro i j o o' b hi hj hl hl' hρ hρ'
   have key:∀ (i:Nat) (o:AO),(S.newRes T).H[i]? = some o->(S.newRes T).ρ i=some b->S.H[i]? = some o∧S.ρ i=some b:=by
    intro i o ho hρ
    by_cases hi:i=S.H.length
    · subst hi; simp only[St.newRes,upd_same]at hρ; cases hρ
    · have hi':i<S.H.length:=by have:=getElem?_lt ho; simp[St.newRes]at this; omega
      simp only[St.newRes]at ho hρ
      rw[List.getElem?_append_left hi']at ho
      rw[upd_ne _ _ hi]at hρ
      exact⟨ho,hρ⟩
   obtain⟨h1,h2⟩:=key i o hi hρ
   obtain⟨h3,h4⟩:=key j o' hj hρ'
   exact h.inj i j o o' b h1 h3 hl hl' h2 h4
def resd (Ts:List TypeId):List AO:=Ts.map fun T=>⟨[],T,0,false⟩
theorem reserve:∀ (Ts:List TypeId) {S:St},Sim S->∃ ρ,Ext S.H.length S ⟨ρ,S.H++resd Ts,S.w⟩∧Sim ⟨ρ,S.H++resd Ts,S.w⟩
 | [],S,h=>⟨S.ρ,by simpa[resd]using Ext.refl _ S,by simpa[resd]using h⟩
 | T::r,S,h=>by
  have h1:=ext_newRes S T
  have h2:=sim_newRes h T
  obtain⟨ρ,h3,h4⟩:=reserve r h2
  have e:(S.newRes T).H++resd r=S.H++resd (T::r):=by simp[St.newRes,resd]
  rw[e]at h3 h4
  exact⟨ρ,h1.trans (h3.mono (h1.len (Nat.le_refl _))),h4⟩
def E.rs (n:Nat):E->E
 | e=>e
def J.rs (n:Nat):J->J
 | .e i=>.e (i.rs n)
 | j=>j
def Ins.rs (n:Nat) (o:Ins):Ins:=⟨o.d,o.g,o.j.rs n⟩
def chkP (P:Program) (N:Nat) (ops:Array Oper) (ns:List Nat) (l:List Ins):Bool :=
 (ns.zip l).all fun x=>match ops[x.1]? with | some o=>chkIns P N ops o x.2 | none=>false
def J.dep:J->Bool
 | .p (.ld1 _) | .p (.ldn _ _) | .p (.lkp _ _ _ _ _) | .p (.bys _) | .q _ _=>true
 | _=>false
def J.quiet:J->Bool
 | .e _=>false
 | _=>true
def quietV (P:Program) (o:Ins) (env:Env) (H:List AO) (v:SV):Prop :=
 match o.g with
 | none =>
  match o.j with
  | .p i=>(pv i env.ev H).1∧v=(pv i env.ev H).2
  | .q f args=>OkC P (env.ev f) (args.map env.ev) H (.ret v) H
  | .e _=>False
 | some (s,want) =>
  (env.get s).bish=true ∧
  match o.j with
  | .p i=>((env.get s).on want=true->(pv i env.ev H).1)∧v=.gd ((env.get s).on want) (pv i env.ev H).2
  | .q f args=>∃ r,((env.get s).on want=true->OkC P (env.ev f) (args.map env.ev) H (.ret r) H)∧v=.gd ((env.get s).on want) r
  | .e _=>False
def Od.slots:Od->List Nat
 | .t n=>[n]
 | .c _=>[]
def I.ods:I->List Od
 | .eqf _ _ x y=>[x,y]
 | .mov x=>[x]
 | .pick c a b=>[c,a,b]
 | .bin _ _ x y=>[x,y]
 | .neg _ x=>[x]
 | .not x=>[x]
 | .cvi _ x=>[x]
 | .ld1 p=>[p]
 | .ldn _ p=>[p]
 | .fa _ p=>[p]
 | .fld1 _ x=>[x]
 | .ia _ s i=>[s,i]
 | .iap _ _ p i=>[p,i]
 | .ixs s i=>[s,i]
 | .ixa _ _ _ x i=>[x,i]
 | .sl _ x lo hi=>x::(lo.toList++hi.toList)
 | .sls x lo hi=>x::(lo.toList++hi.toList)
 | .ext x _=>[x]
 | .len x=>[x]
 | .lens x=>[x]
 | .mkf _ a b=>a++b
 | .mki _ x=>[x]
 | .nck x=>[x]
 | .bld _ ps=>ps.map fun p=>p.2.2
 | .kro _ _ _ _ _=>[]
 | .ifn _ _ x=>[x]
 | .tas _ _ _ x=>[x]
 | .gix _ _ _ _ j=>[j]
 | .lkp _ _ _ m k=>[m,k]
 | .iav _ s j=>[s,j]
 | .lnv x=>[x]
 | .bys x=>[x]
 | .no=>[]
def E.ods:E->List Od
 | .alc _ _=>[]
 | .box _ x=>[x]
 | .bsl _ _ _ _ ps=>ps.map fun p=>p.2
 | .app _ _ _ s x=>[s,x]
 | .st _ p x=>[p,x]
 | .stw ws _ p x=>p::x::ws.map Od.t
 | .call f as=>f::as
 | .nil _ _ x=>[x]
 | .sby x=>[x]
 | .aps _ s x=>[s,x]
 | .pan x=>[x]
 | .mkm _=>[]
 | .mup _ m k v=>[m,k,v]
def J.slots:J->List Nat
 | .p i=>i.ods.flatMap Od.slots
 | .q f args=>(f::args).flatMap Od.slots
 | .e i=>i.ods.flatMap Od.slots
def Ins.slots (o:Ins):List Nat:=(match o.g with | some (s,_)=>[s] | none=>[])++o.j.slots
def hasD (ts:List Nat):Option Nat->Bool
 | some d=>ts.contains d
 | none=>false
def needed (ts:List Nat):List (Ins×SV)->List Nat
 | []=>ts
 | (p,_)::r=>if hasD ts p.d=true then needed (p.slots++ts) r else needed ts r
def loose (o:Ins) (pend:List (Ins×SV)) (p:Ins):Bool:=p.j.dep && !hasD (needed o.slots pend) p.d
def xd (P:Program) (pend:List (Ins×SV)):List Ins->Env->List AO->(XE->Env->List AO->Prop)->Prop
 | [],env,H,K=>K .normal env H
 | o::r,env,H,K =>
  if o.j.quiet=true then
   match o.g,o.j with
   | none,.p i=>(pv i env.ev H).1∧xd P ((o,(pv i env.ev H).2)::pend) r (env.put o.d (pv i env.ev H).2) H K
   | none,.q f args=>∃ v,OkC P (env.ev f) (args.map env.ev) H (.ret v) H∧xd P ((o,v)::pend) r (env.put o.d v) H K
   | some (s,want),.p i=>(env.get s).bish=true∧((env.get s).on want=true->(pv i env.ev H).1) ∧
    xd P ((o,.gd ((env.get s).on want) (pv i env.ev H).2)::pend) r (env.put o.d (.gd ((env.get s).on want) (pv i env.ev H).2)) H K
   | some (s,want),.q f args=>(env.get s).bish=true∧∃ v,((env.get s).on want=true->OkC P (env.ev f) (args.map env.ev) H (.ret v) H) ∧
    xd P ((o,.gd ((env.get s).on want) v)::pend) r (env.put o.d (.gd ((env.get s).on want) v)) H K
   | _,_=>False
  else xo P o env H fun x env' H' =>
   match x with
   | .normal=>(∀ p∈pend,loose o pend p.1=true->quietV P p.1 env' H' p.2)∧xd P pend r env' H' K
   | x=>K x [] H'
def chkC (P:Program) (N:Nat) (D:Array Oper->List Nat->List Ins->Bool):Code->IC->Bool
 | c,.keep _ a=>chkC P N D c a
 | _,.no=>true
 | .skip,.skip=>true
 | .region _ ops false,.reg l=>ndB ops&&chkL P N ops ops.toList l
 | .region _ ops true,.drw m l=>ndB ops&&(chkP P N ops m l&&(D ops m l&&covB ops l))
 | .region _ ops true,.drq _ n0 m l os tl=>ndB ops&&((tailW ops n0&&compB ops os (ops.size-n0) [] (Array.replicate n0 true++Array.replicate (ops.size-n0) false))&&((chkL P N ops (ops.toList.drop n0) tl&&tl.all detI)&&(chkP P N (ops.extract 0 n0) m l&&D (ops.extract 0 n0) m l)))
 | .seq x y,.seq a b=>chkC P N D x a&&chkC P N D y b
 | .cond c x y,.cond c' a b=>chkOd c c'&&chkC P N D x a&&chkC P N D y b
 | .block id x,.blk id' a=>id==id'&&chkC P N D x a
 | .loop x,.loop a=>chkC P N D x a
 | .exit id,.exit id'=>id==id'
 | .ret,.ret=>true
 | .scope x,.scp a=>chkC P N D x a
 | .label _,.lab=>true
 | .rangeFunc g ps a b,.rng _ g' ps' ia ib=>(chkOd g g'&&ps.toList==ps')&&(chkC P N D a ia&&chkC P N D b ib)
 | _,_=>false
def DOk0 (P:Program) (D:Array Oper->List Nat->List Ins->Bool):Prop :=
 ∀ (N:Nat) (ops:Array Oper) (m:List Nat) (l:List Ins) (env:Env) (H:List AO) (K:XE->Env->List AO->Prop),chkP P N ops m l=true->D ops m l=true->xd P [] l env H K →
  ∀ (db:DB) (S:St) (a:Act),S.H=H->Sim S->EnvR S env a.tmps->a.tmps.size=N->db.Ok S.w a.defers->wpAny P .any ops (Post S N db K) ops.size (Array.replicate ops.size false) a S.w.drew
structure DOk (P:Program) (D:Array Oper->List Nat->List Ins->Bool):Prop where
 rs:∀ (n:Nat) (ops:Array Oper) (m:List Nat) (l:List Ins),D ops m l=true->D ops m (l.map (Ins.rs n))=true
 ok:DOk0 P D
 mixed:P.follows .mixedOrders=true
theorem chkIns_rs {P:Program} {N:Nat} {ops:Array Oper} {op:Oper} {o:Ins} (n:Nat) (h:chkIns P N ops op o=true):chkIns P N ops op (o.rs n)=true:=by
 obtain⟨d,g,j⟩:=o
 cases j with
 | p i=>exact h
 | q f as=>exact h
 | e i=>cases i<;>exact h
theorem chkP_rs {P:Program} {N:Nat} {ops:Array Oper} {ns:List Nat} {l:List Ins} (n:Nat) (h:chkP P N ops ns l=true):chkP P N ops ns (l.map (Ins.rs n))=true:=by
 unfold chkP at h ⊢
 rw[List.all_eq_true]at h ⊢
 intro x hx
 rw[List.zip_map_right,List.mem_map]at hx
 obtain⟨y,hy,rfl⟩:=hx
 have:=h y hy
 simp only[Prod.map_fst,id_eq,Prod.map_snd]
 split at this
 · exact chkIns_rs n this
 · cases this
def LoopIn (ro:Option Nat) (P:Program) (c:Code) (Q:Exit->Act->World->Prop) (a:Act) (w:World):Prop :=
 ∀ (b:Frame) (k:List Item) (cs:List Frame),b.roundOf=ro->∃ e a' w',Q e a' w'∧ArrivesIn (Machine.fenced P (Fr ro)) P (lone (b.atR a (.code c::.inLoop c::k)) cs w) b k cs e a' w'
section
variable {ro:Option Nat} {P:Program} {c:Code} {Q:Exit->Act->World->Prop} {a:Act} {w:World}
theorem fr_calm {fr:Frame} {cs:List Frame} {w:World} (h:fr.about P w=none):(lone fr cs w).fenced P (Fr ro):=fenced_calm (n:=0) trivial (fr_room _ _) h
theorem loopIn_wp (h:LoopIn ro P c Q a w):(Code.loop c).wq ro P Q a w:=by
 intro b k cs hro _ _
 obtain⟨e,a',w',hq,harr⟩:=h b k cs hro
 exact⟨e,a',w',hq,.of_steps (.one (fr_calm rfl) stepR_loop) harr⟩
theorem loopIn_round (h:c.wq ro P (Exit.then (LoopIn ro P c Q) Q) a w):LoopIn ro P c Q a w:=by
 intro b k cs hro
 obtain⟨e,a₁,w₁,hq,harr⟩:=h b (.inLoop c::k) cs hro trivial (fr_room _ _)
 cases e with
 | normal =>
  obtain⟨e₂,a₂,w₂,hq₂,harr₂⟩:=hq b k cs hro
  exact⟨e₂,a₂,w₂,hq₂,.of_steps (StepsIn.trans harr (.one (fr_calm rfl) stepR_inLoop)) harr₂⟩
 | exit id=>exact⟨_,a₁,w₁,hq,.pass (x:=.inLoop c) rfl (fun _ _=>.inl (by simp)) harr⟩
 | goto l=>exact⟨_,a₁,w₁,hq,.pass (x:=.inLoop c) rfl (fun _ _=>.inl (by simp)) harr⟩
 | ret=>exact⟨_,a₁,w₁,hq,.pass (x:=.inLoop c) rfl (fun _ _=>.inl (by simp)) harr⟩
 | panic ch=>exact⟨_,a₁,w₁,hq,.pass (x:=.inLoop c) rfl (fun _ _=>.inl (by simp)) harr⟩
 | outgrown=>exact⟨_,a₁,w₁,hq,.pass (x:=.inLoop c) rfl (fun _ _=>.inl (by simp)) harr⟩
theorem loopIn_mono {Q':Exit->Act->World->Prop} (h:LoopIn ro P c Q a w) (hq:∀ e a w,Q e a w->Q' e a w):LoopIn ro P c Q' a w :=
 fun b k cs hro=>let ⟨e,a',w',q,r⟩:=h b k cs hro; ⟨e,a',w',hq _ _ _ q,r⟩
end
def okL (P:Program) (N:Nat) (D:Array Oper->List Nat->List Ins->Bool) (ps:List Nat) (ia ib:IC) (r:Loop):Prop :=
 r.params.toList=ps∧r.tmps.size=N∧chkC P N D r.assign ia=true∧chkC P N D r.body ib=true
def Env.vals (e:Env) (N:Nat):List SV:=(List.range N).map e.get
def lpo (P:Program) (N:Nat) (D:Array Oper->List Nat->List Ins->Bool) (k:Nat) (ps:List Nat) (ia ib:IC) (cs:List SV) (st:LSt):AO:=⟨.lp k (okL P N D ps ia ib) st::cs,0,0,false⟩
def deadL:AO:=⟨[],0,1,false⟩
def LSt.out (K:XE->Env->List AO->Prop) (env:Env) (H:List AO):LSt->Prop
 | .ready=>K .normal env H
 | .busy=>False
 | .ret=>K .ret env H
 | .exit id=>K (.exit id) env H
 | .goto l=>K (.goto l) env H
def LI (P:Program) (N:Nat) (D:Array Oper->List Nat->List Ins->Bool) (i:IC) (env:Env) (H:List AO) (K:XE->Env->List AO->Prop):Prop :=
 ∀ c,chkC P N D c i=true->∀ (db:DB) (S:St) (a:Act),S.H=H->Sim S->EnvR S env a.tmps->a.tmps.size=N->db.Ok S.w a.defers->LoopIn db.ro P c (Post S N db K) a S.w
def WI (P:Program) (N:Nat) (D:Array Oper->List Nat->List Ins->Bool) (i:IC) (env:Env) (H:List AO) (K:XE->Env->List AO->Prop):Prop :=
 ∀ c,chkC P N D c i=true->W P N c env H K
def X (P:Program) (N:Nat) (D:Array Oper->List Nat->List Ins->Bool):IC->Env->List AO->(XE->Env->List AO->Prop)->Prop
 | .skip,env,H,K=>K .normal env H
 | .reg l,env,H,K=>xops P l env H K
 | .drw _ l,env,H,K=>xd P [] l env H fun x e H =>
  match x with
  | .normal=>K .normal e H
  | x=>K x (offE l env) H
 | .drq Ts n0 _ l os tl,env,H,K=>xd P [] (l.map (Ins.rs H.length)) env (H++resd Ts) fun x env H =>
  match x with
  | .normal=>xrt P n0 tl os env H fun x e H=>K x (e.keep (dreK tl env)) H
  | x=>K x env H
 | .seq a b,env,H,K=>X P N D a env H fun x env H =>
  match x with
  | .normal=>X P N D b env H K
  | x=>K x env H
 | .cond c a b,env,H,K=>(env.ev c).isB=true∧((env.ev c).bool=true->X P N D a env H K)∧((env.ev c).bool=false->X P N D b env H K)
 | .blk id a,env,H,K=>X P N D a env H fun x env H =>
  match x with
  | .exit i=>if i=id then K .normal env H else K (.exit i) env H
  | x=>K x env H
 | .loop a,env,H,K=>LI P N D a env H K
 | .exit id,env,H,K=>K (.exit id) env H
 | .ret,env,H,K=>K .ret env H
 | .keep ks a,env,H,K=>X P N D a (env.keep ks) H K
 | .rng kk g ps ia ib,env,H,K=>(env.ev g).vd=true∧match (env.ev g).ug with
  | .fn (.func k) first cap=>∃ Pt:Out->List AO->Prop,OkP P k (first++[.yl H.length]++cap) (H++[lpo P N D kk ps ia ib (env.vals N) .ready]) Pt ∧
   ∀ out H',Pt out H'->match out with
    | .ret _=>∃ k' ok st cs,H'[H.length]? = some ⟨.lp k' ok st::cs,0,0,false⟩∧st.out K env (H'.set H.length deadL)
    | .pan x=>K (.panic x) env H'
  | _=>False
 | .scp a,env,H,K=>X P N D a env H fun x env H =>
  match x with
  | .goto _=>False
  | x=>K x env H
 | .lab,env,H,K=>K .normal env H
 | .no,_,_,_=>False
section
variable {P:Program} {N:Nat} {D:Array Oper->List Nat->List Ins->Bool}
theorem W.mono {c:Code} {env:Env} {H:List AO} {K K':XE->Env->List AO->Prop} (h:W P N c env H K) (hk:∀ x env H,K x env H->K' x env H):W P N c env H K':=by
 intro db S a h1 h2 h3 h4 h5
 refine wq_mono (h db S a h1 h2 h3 h4 h5) ?_
 rintro e a w ⟨x,env',ρ,H',g1,g2,g3,g4,g5,g6,g7⟩
 exact⟨x,env',ρ,H',g1,g2,g3,g4,g5,g6,hk _ _ _ g7⟩
theorem W.keep {c:Code} {env:Env} {H:List AO} {K:XE->Env->List AO->Prop} (ks:List Nat) (h:W P N c (env.keep ks) H K):W P N c env H K :=
 fun db S a h1 h2 h3 h4 h5=>h db S a h1 h2 (h3.keep ks) h4 h5
theorem WI.keep {i:IC} {env:Env} {H:List AO} {K:XE->Env->List AO->Prop} (ks:List Nat) (h:WI P N D i (env.keep ks) H K):WI P N D i env H K :=
 fun c hc=>(h c hc).keep ks
theorem W.seq {x y:Code} {env:Env} {H:List AO} {K:XE->Env->List AO->Prop}
 (h:W P N x env H fun e env H=>match e with | .normal=>W P N y env H K | e=>K e env H):W P N (.seq x y) env H K:=by
 intro db S a h1 h2 h3 h4 h5
 refine wpIn_seq (wq_mono (h db S a h1 h2 h3 h4 h5) ?_)
 rintro e a' w ⟨xe,env',ρ,H',g1,g2,g3,g4,g5,g6,g7⟩
 cases xe<;>cases e<;>simp only[ER]at g1
 · exact wq_mono (g7 db ⟨ρ,H',w⟩ a' rfl g3 g4 g5 g6) fun e a w h=>Post.trans g2 h
 · exact⟨.exit _,env',ρ,H',g1,g2,g3,g4,g5,g6,g7⟩
 · exact⟨.goto _,env',ρ,H',g1,g2,g3,g4,g5,g6,g7⟩
 · exact⟨.ret,env',ρ,H',g1,g2,g3,g4,g5,g6,g7⟩
 · exact⟨.panic _,env',ρ,H',g1,g2,g3,g4,g5,g6,g7⟩
theorem W.cond {c:Operand} {c':Od} {x y:Code} {env:Env} {H:List AO} {K:XE->Env->List AO->Prop} (hc:chkOd c c'=true) (hb:(env.ev c').isB=true)
 (ht:(env.ev c').bool=true->W P N x env H K) (hf:(env.ev c').bool=false->W P N y env H K):W P N (.cond c x y) env H K:=by
 intro db S a h1 h2 h3 h4 h5
 have e1:=(chkOd_spec hc h3).isB hb
 exact wpIn_cond_split e1 (fun h=>ht h db S a h1 h2 h3 h4 h5) (fun h=>hf h db S a h1 h2 h3 h4 h5)
theorem W.block {id:Nat} {x:Code} {env:Env} {H:List AO} {K:XE->Env->List AO->Prop}
 (h:W P N x env H fun e env H=>match e with | .exit i=>if i=id then K .normal env H else K (.exit i) env H | e=>K e env H):W P N (.block id x) env H K:=by
 intro db S a h1 h2 h3 h4 h5
 refine wpIn_block (wq_mono (h db S a h1 h2 h3 h4 h5) ?_)
 rintro e a' w ⟨xe,env',ρ,H',g1,g2,g3,g4,g5,g6,g7⟩
 cases xe<;>cases e<;>simp only[ER]at g1
 case exit.exit i j =>
  subst g1
  simp only[Exit.inBlock]
  simp only at g7
  by_cases hij:i=id
  · rw[if_pos hij]at g7 ⊢
    exact⟨.normal,env',ρ,H',trivial,g2,g3,g4,g5,g6,g7⟩
  · rw[if_neg hij]at g7 ⊢
    exact⟨.exit i,env',ρ,H',rfl,g2,g3,g4,g5,g6,g7⟩
 · exact⟨.normal,env',ρ,H',g1,g2,g3,g4,g5,g6,g7⟩
 · exact⟨.goto _,env',ρ,H',g1,g2,g3,g4,g5,g6,g7⟩
 · exact⟨.ret,env',ρ,H',g1,g2,g3,g4,g5,g6,g7⟩
 · exact⟨.panic _,env',ρ,H',g1,g2,g3,g4,g5,g6,g7⟩
theorem W.scope {x:Code} {env:Env} {H:List AO} {K:XE->Env->List AO->Prop}
 (h:W P N x env H fun e env H=>match e with | .goto _=>False | e=>K e env H):W P N (.scope x) env H K:=by
 intro db S a h1 h2 h3 h4 h5
 refine wpIn_scope (wq_mono (h db S a h1 h2 h3 h4 h5) ?_)
 rintro e a' w ⟨xe,env',ρ,H',g1,g2,g3,g4,g5,g6,g7⟩
 cases xe<;>cases e<;>simp only[ER]at g1
 · exact⟨trivial,.normal,env',ρ,H',trivial,g2,g3,g4,g5,g6,g7⟩
 · exact⟨trivial,.exit _,env',ρ,H',g1,g2,g3,g4,g5,g6,g7⟩
 · exact g7.elim
 · exact⟨trivial,.ret,env',ρ,H',trivial,g2,g3,g4,g5,g6,g7⟩
 · exact⟨trivial,.panic _,env',ρ,H',g1,g2,g3,g4,g5,g6,g7⟩
theorem Env.vals_rel {S:St} {env:Env} {tmps:Array Value} (h:EnvR S env tmps) (hN:tmps.size=N):VRs S (env.vals N) tmps.toList:=by
 refine⟨by simp[Env.vals,hN],fun j s u h1 h2 => ?_⟩
 have hj:j<N:=by have:=getElem?_lt h2; simp at this; omega
 simp only[Env.vals,List.getElem?_map,List.getElem?_range hj,Option.map_some,Option.some.injEq]at h1
 subst h1
 have h3:=h.get j
 have h4:tmps[j]? = some u:=by simpa using h2
 rwa [Array.getD_eq_getD_getElem?,h4]at h3
theorem enter_lp {S:St} {db:DB} {ds:List Deferred} (hS:Sim S) (hdb:db.Ok S.w ds) (fn:FuncId) {tmps:Array Value} {ps:Array Tmp} {a b:Code} {cs:List SV} {kk:Nat} {ok:Loop->Prop} (hv:VRs S cs tmps.toList)
 (hok:∀ st pe l,ok { state:=st,pending:=pe,fn,tmps,params:=ps,assign:=a,body:=b,defers:=l }) :
 ∃ (l:Nat) (mk:List Deferred) (w1:World) (ρ1:Nat->Option Nat),(Instr.enterLoop fn tmps ps a b db.ro).run P S.w=.ok (l,mk) w1∧ρ1 S.H.length=some l ∧
  Ext S.H.length S ⟨ρ1,S.H++[⟨.lp kk ok .ready::cs,0,0,false⟩],w1⟩∧Sim ⟨ρ1,S.H++[⟨.lp kk ok .ready::cs,0,0,false⟩],w1⟩∧db.Ok w1 (mk++ds):=by
 cases hro:db.ro with
 | none =>
  have h1:=sim_alloc hS (.deferred (some []))
  have e1:=ext_alloc (S:=S) (.deferred (some []))
  have hsz:(S.w.alloc (.deferred (some []))).heap.size=S.w.heap.size+1:=by simp
  obtain⟨r,hr⟩:∃ r:Loop,r={ state:=.ready,pending:=none,fn,tmps,params:=ps,assign:=a,body:=b,defers:=S.w.heap.size }:=⟨_,rfl⟩
  have h2:=sim_newLp (r:=r) (kk:=kk) (ok:=ok) (cs:=cs) (T:=0) h1 (by rw[hr]; exact hok _ _ _) (by rw[hr]; exact⟨rfl,rfl⟩) (by rw[hr]; exact hv.ext e1)
  have e2:=ext_newLp (S:=⟨S.ρ,S.H,S.w.alloc (.deferred (some []))⟩) r ⟨.lp kk ok .ready::cs,0,0,false⟩
  have hd2:=(hdb.ext hS e1).ext h1 e2
  refine⟨S.w.heap.size+1,[mark S.w.heap.size],_,_,?_,?_,e1.trans e2,h2,?_⟩
  · rw[run_enterLoop_outer,hr]; rfl
  · simp only[upd_same,hsz]
  · obtain⟨ms,k1,k2,k3⟩:=hdb.ms
    refine⟨hd2.le,⟨S.w.heap.size::ms,by simp[k1],?_,?_⟩,hd2.ro⟩
    · rw[List.nodup_cons]
      refine⟨fun hm => ?_,k2⟩
      have:=lt_heap (k3 _ hm).2
      omega
    · obtain⟨ms',g1,_,g3⟩:=hd2.ms
      have hmm:ms'=ms:=by
       have:ms'.map mark=ms.map mark:=by
        have:=g1.symm.trans k1
        exact List.append_cancel_right this
       exact List.map_inj_right (fun x y h=>by simpa[mark]using h) |>.1 this
      subst hmm
      intro D hD
      rw[List.mem_cons]at hD
      rcases hD with rfl | hD
      · refine⟨hdb.le,?_⟩
        refine((heap_alloc_lt _ _ ?_).trans (heap_alloc_at S.w _))
        rw[hsz]; omega
      · exact g3 D hD
 | some l0 =>
  obtain⟨r0,hr0⟩:=hdb.ro l0 hro
  obtain⟨r,hr⟩:∃ r:Loop,r={ state:=.ready,pending:=none,fn,tmps,params:=ps,assign:=a,body:=b,defers:=r0.defers }:=⟨_,rfl⟩
  have h2:=sim_newLp (r:=r) (kk:=kk) (ok:=ok) (cs:=cs) (T:=0) hS (by rw[hr]; exact hok _ _ _) (by rw[hr]; exact⟨rfl,rfl⟩) (by rw[hr]; exact hv)
  have e2:=ext_newLp (S:=S) r ⟨.lp kk ok .ready::cs,0,0,false⟩
  refine⟨S.w.heap.size,[],_,_,?_,?_,e2,h2,hdb.ext hS e2⟩
  · rw[run_enterLoop_inner hr0,hr]
  · simp only[upd_same]
theorem W.rng {kk:Nat} {g:Operand} {g':Od} {ps:Array Tmp} {a b:Code} {ia ib:IC} {env:Env} {H:List AO} {K:XE->Env->List AO->Prop} (hg:chkOd g g'=true) (ha:chkC P N D a ia=true) (hb:chkC P N D b ib=true)
 (hvd:(env.ev g').vd=true) {k:FuncId} {first cap:List SV} (hf:(env.ev g').ug=.fn (.func k) first cap) {Pt:Out->List AO->Prop}
 (hok:OkP P k (first++[.yl H.length]++cap) (H++[lpo P N D kk ps.toList ia ib (env.vals N) .ready]) Pt)
 (hK:∀ out H',Pt out H'->match out with
  | .ret _=>∃ k' ok st cs,H'[H.length]? = some ⟨.lp k' ok st::cs,0,0,false⟩∧st.out K env (H'.set H.length deadL)
  | .pan x=>K (.panic x) env H'):W P N (.rangeFunc g ps a b) env H K:=by
 intro db S act h1 h2 h3 h4 h5
 subst h1
 have hgv:=(chkOd_spec hg h3).ug hvd
 rw[hf]at hgv
 obtain⟨us,vs,hv,hus,hvs⟩:=hgv.fn_inv
 refine wpIn_rangeFunc fun fn _ => ?_
 obtain⟨l,mk,w1,ρ1,he,hl,hext,hsim,hdb⟩:=enter_lp (P:=P) (a:=a) (b:=b) (ps:=ps) h2 h5 fn (cs:=env.vals N) (kk:=kk) (ok:=okL P N D ps.toList ia ib) (Env.vals_rel h3 h4) (fun st pe l=>⟨rfl,h4,ha,hb⟩)
 change Ext S.H.length S ⟨ρ1,S.H++[lpo P N D kk ps.toList ia ib (env.vals N) .ready],w1⟩at hext
 change Sim ⟨ρ1,S.H++[lpo P N D kk ps.toList ia ib (env.vals N) .ready],w1⟩at hsim
 obtain⟨o1,ho1⟩:∃ o1,o1=lpo P N D kk ps.toList ia ib (env.vals N) .ready:=⟨_,rfl⟩
 rw[←ho1]at hext hsim hok
 have hat:(S.H++[o1])[S.H.length]? = some o1:=by simp
 obtain⟨y,hyv⟩:∃ y:Value,y=.func (.yield l) #[] #[]:=⟨_,rfl⟩
 have hy:VRs (⟨ρ1,S.H++[o1],w1⟩:St) [.yl S.H.length] [y]:=by
  rw[hyv]
  exact VRs.cons (VR.yl (S:=⟨ρ1,S.H++[o1],w1⟩) S.H.length l o1 hat fun _=>hl) (VRs.nil _)
 have hcalls:=hok.2 ⟨ρ1,S.H++[o1],w1⟩ (us++[y]++vs) rfl hsim (((hus.ext hext).append hy).append (hvs.ext hext))
 refine⟨l,mk,w1,{ target:=.fn (.func k) vs.toArray,args:=us.toArray ++ #[y] },w1,k,(us++[y]++vs).toArray,w1,he,?_,fun _ _=>trivial,?_,fr_one,callsIn_wide.2 (hcalls.mono ?_)⟩
 · simp only[resolve,rangeCall,hv,Deferred.ofValue,Sem.run_bind,Sem.run_pure,Result.andThen_ok,hyv,List.map_toArray,List.map_cons,List.map_nil,eval_const]
 · have e1:us.toArray ++ #[y]++vs.toArray=(us++[y]++vs).toArray:=by apply Array.ext'; simp
   simp only[invoke]
   rw[e1,hok.1]
 rintro e w3 ⟨out,H',v,ρ3,hpt,hext3,hsim3,hout⟩
 have hE:=hext.trans (hext3.mono (hext.len (Nat.le_refl _)))
 have hd3:=hdb.ext hsim hext3
 cases out with
 | pan x =>
  obtain⟨rfl,hx⟩:=hout
  exact⟨.panic x,env,ρ3,H',⟨v,rfl,hx⟩,hE,hsim3,h3.ext hE,h4,hd3,hK _ _ hpt⟩
 | ret r =>
  obtain⟨rfl,hx⟩:=hout
  obtain⟨k',ok',st,cs,hH,hst⟩:=hK _ _ hpt
  obtain⟨l',r,k1,k2,k3,k4,k5⟩:=hsim3.loop hH
  have hll:l'=l:=by
   obtain⟨o',g1,g2,g3⟩:=hext3.obj S.H.length o1 (by simp) hat
   have g4:o'=⟨.lp k' ok' st::cs,0,0,false⟩:=by rw[show(⟨ρ3,H',w3⟩:St).H=H' from rfl,hH]at g1; cases g1; rfl
   have:=g3 (by rw[g4,ho1]; rfl)
   simp only at this k1
   rw[k1,hl]at this
   exact(Option.some.inj this)
  subst hll
  have hnb:r.state≠.busy:=by
   intro hbz
   cases st<;>simp only[LpSt,hbz]at k4<;>first | exact hst | (obtain⟨k4,_⟩:=k4; cases k4)
  have hend:=run_endLoop (P:=P) k2 hnb
  obtain⟨ext4,sim4⟩:=turn_lp hsim3 (o':=deadL) (r':={ r with state:=.exhausted }) hH rfl (by simp) k1 k2 rfl (by simp[deadL]) (.inl rfl)
  obtain⟨w4,hw4⟩:∃ w4,w4=w3.putObj l' (.loop { r with state:=.exhausted }):=⟨_,rfl⟩
  simp only at hend ext4 sim4
  rw[←hw4]at hend ext4 sim4
  have hE4:=hE.trans (ext4.mono (hE.len (Nat.le_refl _)))
  have hd4:=hd3.ext hsim3 ext4
  have fin:∀ x e,ER ⟨ρ3,H'.set S.H.length deadL,w4⟩ x e->K x env (H'.set S.H.length deadL)->Post S N db K e { act with defers:=mk++act.defers } w4 :=
   fun x e hx hk=>⟨x,env,ρ3,_,hx,hE4,sim4,h3.ext hE4,h4,hd4,hk⟩
  refine⟨r.pending,_,hend,?_⟩
  cases st with
  | ready=>rw[k4.2]; exact fin .normal .normal trivial hst
  | busy=>exact hst.elim
  | ret=>rw[k4.2]; exact wpIn_ret (fin .ret .ret trivial hst)
  | exit id=>rw[k4.2]; exact wpIn_exit (fin (.exit id) (.exit id) rfl hst)
  | goto j=>rw[k4.2]; exact wpIn_goto (fin (.goto j) (.goto j) rfl hst)
theorem X_sound (hD:DOk P D) (i:IC):∀ {env:Env} {H:List AO} {K:XE->Env->List AO->Prop} {c:Code},chkC P N D c i=true->X P N D i env H K->W P N c env H K:=by
 induction i with
 | skip =>
  intro env H K c hc h
  cases c<;>simp only[chkC,Bool.false_eq_true]at hc
  intro db S a h1 h2 h3 h4 h5
  subst h1
  exact wpIn_skip ⟨.normal,env,S.ρ,S.H,trivial,Ext.refl _ S,h2,h3,h4,h5,h⟩
 | reg l =>
  intro env H K c hc h
  obtain⟨id,ops,rfl,hnd,hc⟩:∃ id ops,c=.region id ops false∧ndB ops=true∧chkL P N ops ops.toList l=true:=by
   cases c with
   | region id ops dr=>cases dr<;>simp[chkC]at hc; exact⟨id,ops,rfl,hc⟩
   | _=>simp[chkC]at hc
  intro db S a h1 h2 h3 h4 h5
  subst h1
  exact wp_region_list hnd (xops_sound _ _ h2 h3 h4 h5 hc h)
 | drw m l =>
  intro env H K c hc h
  obtain⟨id,ops,rfl,hnd,hcc⟩:∃ id ops,c=.region id ops true∧ndB ops=true∧(chkP P N ops m l=true∧D ops m l=true∧covB ops l=true):=by
   cases c with
   | region id ops dr=>cases dr<;>simp[chkC]at hc; exact⟨id,ops,rfl,hc⟩
   | _=>simp[chkC]at hc
  intro db S a h1 h2 h3 h4 h5
  exact wq_mono (wp_region_any hnd hD.mixed (wpAny_off _ _ _ _ (hD.ok N ops m l env H _ hcc.1 hcc.2.1 h db S a h1 h2 h3 h4 h5) fun t _=>rfl)) fun e a' w' hq=>Post.off h3 hcc.2.2 hq
 | drq Ts n0 m l os tl =>
  intro env H K c hc h
  obtain⟨id,ops,rfl,hnd,⟨h1,h2⟩,⟨h3,h3p⟩,h4,h5⟩:∃ id ops,c=.region id ops true∧ndB ops=true∧(tailW ops n0=true∧compB ops os (ops.size-n0) [] (Array.replicate n0 true++Array.replicate (ops.size-n0) false)=true)∧(chkL P N ops (ops.toList.drop n0) tl=true∧tl.all detI=true)∧chkP P N (ops.extract 0 n0) m l=true∧D (ops.extract 0 n0) m l=true:=by
   cases c with
   | region id ops dr =>
    cases dr
    · simp[chkC]at hc
    · simp only[chkC,Bool.and_eq_true]at hc
      exact⟨id,ops,rfl,hc.1,hc.2.1,hc.2.2.1,hc.2.2.2⟩
   | _=>simp[chkC]at hc
  intro db S a g1 g2 g3 g4 g5
  subst g1
  obtain⟨ρ0,he0,hs0⟩:=reserve Ts g2
  have ht:=tailW_of h1
  have hle:=ht.le
  have hxs:(ops.extract 0 n0).size=n0:=by simp; omega
  have h6:=hD.ok N (ops.extract 0 n0) m _ env _ _ (chkP_rs _ h4) (hD.rs _ _ m l h5) h db ⟨ρ0,S.H++resd Ts,S.w⟩ a rfl hs0 (g3.ext he0) g4 g5
  rw[hxs]at h6
  have hnone:∀ n i,(Array.replicate n false).getD i false=false:=by
   intro n i
   rw[Array.getD_eq_getD_getElem?,Array.getElem?_replicate]
   split<;>rfl
  have h7:=wpAny_tail ht (Q:=Post ⟨ρ0,S.H++resd Ts,S.w⟩ N db K) ?_ ?_ n0 (Array.replicate n0 false) (Array.replicate ops.size false) a S.w.drew (by simp) (by simp) (fun i _=>by rw[hnone,hnone]) (fun i _=>hnone _ _) (fun j o hj=>by rw[hnone]at hj; cases hj) h6
  · rw[show n0+(ops.size-n0)=ops.size by omega]at h7
    exact wq_mono (wp_region_any hnd hD.mixed h7) fun e a' w hq=>Post.trans he0 hq
  · rintro e a w hne ⟨x,env',ρ,H',k1,k2,k3,k4,k5,k6,k7⟩
    cases x<;>cases e<;>simp only[ER]at k1
    · exact absurd rfl hne
    · exact⟨.exit _,env',ρ,H',k1,k2,k3,k4,k5,k6,k7⟩
    · exact⟨.goto _,env',ρ,H',k1,k2,k3,k4,k5,k6,k7⟩
    · exact⟨.ret,env',ρ,H',k1,k2,k3,k4,k5,k6,k7⟩
    · exact⟨.panic _,env',ρ,H',k1,k2,k3,k4,k5,k6,k7⟩
  · rintro fuel listed a w j1 j2 j3 j4 ⟨x,env',ρ,H',k1,k2,k3,k4,k5,k6,k7⟩
    cases x<;>simp only[ER]at k1
    have hls:listed=Array.replicate n0 true++Array.replicate (ops.size-n0) false:=by
     refine Array.ext_getElem? fun i => ?_
     by_cases hi:i<ops.size
     · have e1:listed[i]? = some (decide (i<n0)):=by
        have hi':i<listed.size:=by omega
        rw[Array.getElem?_eq_getElem hi']
        by_cases h:i<n0
        · have:=j3 i h
          rw[Array.getD_eq_getD_getElem?,Array.getElem?_eq_getElem hi']at this
          simpa[h]using this
        · have:=j4 i (by omega)
          rw[Array.getD_eq_getD_getElem?,Array.getElem?_eq_getElem hi']at this
          simpa[h]using this
       rw[e1,Array.getElem?_append]
       simp only[Array.size_replicate,Array.getElem?_replicate]
       by_cases h:i<n0
       · simp[h]
       · simp[h]; omega
     · rw[Array.getElem?_eq_none (by omega),Array.getElem?_eq_none (by simp; omega)]
    obtain⟨d,hd⟩:∃ d,fuel=(ops.size-n0)+d:=⟨fuel-(ops.size-n0),by omega⟩
    have h8:wpAny P .any ops (Post ⟨ρ0,S.H++resd Ts,S.w⟩ N db fun x e H=>K x (e.keep (dreK tl env')) H) fuel listed a w :=
     drq_sound h3 h3p fuel [] listed ⟨ρ,H',w⟩ env' a (by rw[hls,hd]; exact compB_add h2 d) j2 j3 (fun rest hm=>xrt_all k7 rest (by simpa using hm)) k2 k3 k4 k5 k6
    refine wpAny_post (fun e a w hh => ?_) _ _ _ _ h8
    obtain⟨x,env2,ρ2,H2,q1,q2,q3,q4,q5,q6,q7⟩:=hh
    exact⟨x,env2.keep (dreK tl env'),ρ2,H2,q1,q2,q3,q4.keep _,q5,q6,q7⟩
 | seq a b iha ihb =>
  intro env H K c hc h
  cases c<;>simp only[chkC,Bool.false_eq_true,Bool.and_eq_true]at hc
  refine W.seq ((iha hc.1 h).mono ?_)
  intro x env H hk
  cases x<;>first | exact hk | exact ihb hc.2 hk
 | cond c' a b iha ihb =>
  intro env H K c hc h
  cases c<;>simp only[chkC,Bool.false_eq_true,Bool.and_eq_true]at hc
  exact W.cond hc.1.1 h.1 (fun hb=>iha hc.1.2 (h.2.1 hb)) (fun hb=>ihb hc.2 (h.2.2 hb))
 | blk id a iha =>
  intro env H K c hc h
  cases c<;>simp only[chkC,Bool.false_eq_true,Bool.and_eq_true,beq_iff_eq]at hc
  obtain⟨rfl,hc⟩:=hc
  exact W.block (iha hc h)
 | loop a iha =>
  intro env H K c hc h
  cases c<;>simp only[chkC,Bool.false_eq_true]at hc
  intro db S a h1 h2 h3 h4 h5
  exact loopIn_wp (h _ hc db S a h1 h2 h3 h4 h5)
 | exit id =>
  intro env H K c hc h
  cases c<;>simp only[chkC,Bool.false_eq_true,beq_iff_eq]at hc
  subst hc
  intro db S a h1 h2 h3 h4 h5
  subst h1
  exact wpIn_exit ⟨.exit _,env,S.ρ,S.H,rfl,Ext.refl _ S,h2,h3,h4,h5,h⟩
 | ret =>
  intro env H K c hc h
  cases c<;>simp only[chkC,Bool.false_eq_true]at hc
  intro db S a h1 h2 h3 h4 h5
  subst h1
  exact wpIn_ret ⟨.ret,env,S.ρ,S.H,trivial,Ext.refl _ S,h2,h3,h4,h5,h⟩
 | scp a iha =>
  intro env H K c hc h
  cases c<;>simp only[chkC,Bool.false_eq_true]at hc
  exact W.scope (iha hc h)
 | lab =>
  intro env H K c hc h
  cases c<;>simp only[chkC,Bool.false_eq_true]at hc
  intro db S a h1 h2 h3 h4 h5
  subst h1
  exact wpIn_label ⟨.normal,env,S.ρ,S.H,trivial,Ext.refl _ S,h2,h3,h4,h5,h⟩
 | keep ks a iha =>
  intro env H K c hc h
  exact(iha (by simpa only[chkC]using hc) h).keep ks
 | rng kk g' ps' ia ib _ _ =>
  intro env H K c hc h
  cases c<;>simp only[chkC,Bool.false_eq_true,Bool.and_eq_true,beq_iff_eq]at hc
  rename_i g ps a b
  obtain⟨⟨hg,rfl⟩,ha,hb⟩:=hc
  obtain⟨hvd,h⟩:=h
  split at h
  · rename_i k first cap hf
    obtain⟨Pt,hok,hK⟩:=h
    exact W.rng hg ha hb hvd hf hok hK
  · exact h.elim
 | no=>intro env H K c hc h; exact h.elim
theorem LI.round (hD:DOk P D) {i:IC} {env:Env} {H:List AO} {K:XE->Env->List AO->Prop}
 (h:X P N D i env H fun x env H=>match x with | .normal=>LI P N D i env H K | x=>K x env H):LI P N D i env H K:=by
 intro c hc db S a h1 h2 h3 h4 h5
 refine loopIn_round (wq_mono (X_sound hD i hc h db S a h1 h2 h3 h4 h5) ?_)
 rintro e a' w ⟨xe,env',ρ,H',g1,g2,g3,g4,g5,g6,g7⟩
 cases xe<;>cases e<;>simp only[ER]at g1
 · exact loopIn_mono (g7 c hc db ⟨ρ,H',w⟩ a' rfl g3 g4 g5 g6) fun e a w h=>Post.trans g2 h
 · exact⟨.exit _,env',ρ,H',g1,g2,g3,g4,g5,g6,g7⟩
 · exact⟨.goto _,env',ρ,H',g1,g2,g3,g4,g5,g6,g7⟩
 · exact⟨.ret,env',ρ,H',g1,g2,g3,g4,g5,g6,g7⟩
 · exact⟨.panic _,env',ρ,H',g1,g2,g3,g4,g5,g6,g7⟩
end
end Go.Ab
