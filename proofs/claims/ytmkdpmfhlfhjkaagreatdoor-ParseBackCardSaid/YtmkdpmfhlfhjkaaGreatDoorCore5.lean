/- Steps of the proof. -/
import Derived.Test.YtmkdpmfhlfhjkaaGreatDoorCore4
set_option linter.all false
namespace Go.Ab
open Go.ChangeShapes Go.WideShapes Go.ChangeAt Go.RowKit
section
theorem Qth {a b:List Nat}:wOk (a++b)↔wOk a/\wOk b:=by
 letI:QO:=⟨λ_=>none⟩
 exact Ql8
variable {H:Type} {enc:ZM×Value->H} {P:ZN} {W:ZO} {base:Nat} {spare:Nat->Bool} {held:Bool}
theorem Qp3 {ts:List ZM} {vs:ZK} {ds:List (DataW H)} {p:List MemPlace} (h:DataW.TrodAll enc P W base spare held ts vs ds p):ds.length=ts.length:=by
 letI:QO:=⟨λ_=>none⟩
 exact QpL h
theorem QwG (hl:laidOutB P=true) {W':ZO} (hb:Below W.heap.size W W') {ts:List ZM} {vs:ZK} {ds:List (DataW H)} {p:List MemPlace}
 (hr:∀ t∈ts,P.readableRec t=true/\t<P.types.size) (h:DataW.TrodAll enc P W 0 (λ_=>true) true ts vs ds p):DataW.TrodAll enc P W' 0 (λb=>decide (b<W.heap.size)) true ts vs ds p:=by
 letI:QO:=⟨λ_=>none⟩
 exact QsF hl hb hr h
end
section
variable [QO] [QK] [Qv]
theorem QDq {F F':QK} {W:ZO} {l:List Int} {v:Value} (h : @VR F (st0 W) (.slc (QE l) l.length) v) : @VR F' (st0 W) (.slc (QE l) l.length) v:=by
 have hi:∀ (j:Nat) (s:SV),(QE l)[j]? = some s->∃ n,s=V n:=by
  intro j s hs;simp only[QE,Vs,V1]at hs;obtain⟨n,_,rfl⟩:=hs; exact⟨n,rfl⟩
 generalize QE l=cs at *;generalize l.length=n at *
 cases h with
 |nilslc=>exact .nilslc
 |slc cells len a cap us hc hl hm hh =>
  have hv:∀ (j:Nat) (s:SV) (u:Value),cs[j]? = some s->us[j]? = some u->∃ n,s=V n/\u=.int .i64 n:=by
   intro j s u hs hu;obtain⟨n,rfl⟩:=hi j s hs;have:=hh j _ u hs hu
   cases this
   exact⟨n,rfl,rfl⟩
  refine .slc _ _ a cap us hc hl ⟨hm.1,λ_=>rw0 W _,λ_ _=>.inr ?_⟩ λj s u hs hu => ?_
  . rw[Vi];intro u hu;obtain⟨j,hj,rfl⟩:=Y3 hu;obtain⟨n,_,h2⟩:=hv j _ us[j] (Ve (by omega)) (Ve hj);rw[h2]; rfl
  . obtain⟨n,rfl,rfl⟩:=hv j s u hs hu;exact .val _
def Qh4 (P:ZN) (t:ZM):Bool:=match P.underlying t with
 |some (.int _)=>true
 |some .bool=>true
 |some .string=>true
 |some (.slice e)=>(match P.underlying e with|some (.int .i64)=>decide (1<=P.bytesOf e)|_=>false)
 |_=>false
theorem Qoa {P:ZN} {e:ZM} (he:P.underlying e=some (.int .i64)):∀ zs:List Dt,Dt.tyA P zs e->∃ l:List Int,Dt.cellsL zs=QE l/\l.length=zs.length
 |[],_=>⟨[],rfl,rfl⟩
 |y::r,hty=>by
  rw[Dt.tyA]at hty;obtain⟨l,g1,g2⟩:=Qoa he r hty.2;have h:=hty.1
  cases y with
  |int k n =>
   simp only[Dt.ty,he,Option.some.injEq,TypeDesc.int.injEq]at h;obtain⟨rfl,_⟩:=h;exact⟨n::l,by simp only[Dt.cellsL,g1,Dt.cells]; rfl,by simp[g2]⟩
  |bool b=>simp[Dt.ty,he]at h
  |str s=>simp[Dt.ty,he]at h
  |sl l=>simp[Dt.ty,he]at h
  |agg l=>simp[Dt.ty,he]at h
variable {H:Type} {enc:ZM×Value->H} {P:ZN} {W:ZO} {base b0:Nat} {spare:Nat->Bool} {held:Bool} {r:Reach}
theorem QvB {t:ZM} (hc:Qh4 P t=true) {v:Value} {d:DataW H} {p:List MemPlace} (hval:Value.okWide P W r b0 t v) (hd:DataW.Trod enc P W base spare held t v d p) (hw:wOk (d.weights P t)) :
 ∃ dt:Dt,dt.ty P t/\VR (st0 W) dt.sv v:=by
 obtain⟨fuel,h⟩:=hd;unfold Qh4 at hc;split at hc
 . rename_i k ht;obtain⟨n,rfl⟩:=okWide_int ht hval;obtain⟨m,he,_,hwf⟩:=DataW.trod_int ht h;have he:n=m:=by simpa[Value.cells]using he
   subst he;exact⟨.int k n,⟨ht,hwf⟩,.val _⟩
 . rename_i ht;obtain⟨b,rfl⟩:=okWide_bool ht hval;exact⟨.bool b,ht,.val _⟩
 . rename_i ht;obtain⟨s,rfl⟩:=okWide_string ht hval;obtain⟨s',he,hd,hs⟩:=DataW.trod_string ht h;have he:s=s':=by simpa[Value.cells]using he
   subst he;have hd:d=.lit (.string s.data.toList):=by simpa using Zt Prod.fst hd
   subst hd;refine⟨.str s,⟨ht,?_⟩,.val _⟩;have:=hw s.data.toList.length (by simp[DataW.weights]);simpa using this
 . rename_i e ht;split at hc
   . rename_i he;obtain⟨a,len,cap,rfl⟩:=okWide_slice ht hval;have hS:∀ u∈[t,e],Qjs P [t,e] u=true:=by
      intro u hu;simp only[Vd,Vu,Zw]at hu;rcases hu with rfl|rfl
      . unfold Qjs; rw[ht]; simpa using hc
      . unfold Qjs; rw[he]
     obtain⟨dt,k1,k2,_⟩ := @QDU (⟨λ_=>none⟩) frNone knNone (@Qe5.mk knNone rfl) (@QfY.mk frNone rfl) H enc P W base spare held [t,e] hS fuel t _ _ h hw (by simp)
     cases dt with
     |sl l =>
      have k1':=k1;simp only[Dt.ty,ht,Option.some.injEq,TypeDesc.slice.injEq]at k1;obtain⟨e',rfl,_,k3⟩:=k1;obtain⟨zs,z1,z2⟩:=Qoa he l k3;refine⟨.sl l,k1',?_⟩;have hc1:(Dt.sl l).cells=[.slc (QE zs) zs.length]:=by rw[Dt.cells,z1,z2]
      have hsv:(Dt.sl l).sv=.slc (QE zs) zs.length:=by simp only[Dt.sv,hc1]; rfl
      rw[hc1]at k2;rw[hsv];exact QDq (k2.2 0 _ _ rfl rfl)
     |int k n=>simp[Dt.ty,ht]at k1
     |bool b=>simp[Dt.ty,ht]at k1
     |str s=>simp[Dt.ty,ht]at k1
     |agg l=>simp[Dt.ty,ht]at k1
   . cases hc
 . cases hc
theorem QrF:∀ {ts:List ZM} {vs:ZK} {ds:List (DataW H)} {p:List MemPlace},(∀ t∈ts,Qh4 P t=true) ->
 (∀ (j:Nat) t v,ts[j]? = some t->vs[j]? = some v->Value.okWide P W r b0 t v)->DataW.TrodAll enc P W base spare held ts vs ds p->wOk (DataW.weightsEach P ts ds) ->
 ∃ dts,Dt.tyL P dts ts/\VRs (st0 W) (dts.map Dt.sv) vs
 |[],vs,ds,p,hb,hval,h,hw=>by
  obtain⟨rfl,_,_⟩:=trodAll_nil h; exact⟨[],rfl,VRs.nil _⟩
 |t::ts,vs,ds,p,hb,hval,h,hw=>by
  obtain⟨v,vs',d,ds',p,q,rfl,rfl,rfl,h1,h2⟩:=trodAll_cons h;rw[DataW.weightsEach,Qth]at hw;obtain⟨dt,g1,g2⟩:=QvB (hb t (by simp)) (hval 0 t v rfl rfl) h1 hw.1;obtain⟨dts,g3,g4⟩:=QrF (λt ht=>hb t (by simp[ht])) (λj t v ht hv=>hval (j+1) t v (by simpa using ht) (by simpa using hv)) h2 hw.2;exact⟨dt::dts,⟨g1,g3⟩,VRs.cons g2 g4⟩
theorem law_contract_flat [Qe5] {f:ZP} {fn:Func} {s:ChangeSpec} (hS:(fn.params.toList.all λt=>Qh4 P t)=true) (hg:(st0 W).GL) (hl:laidOutB P=true) (hr:∀ t∈fn.params.toList,P.readableRec t=true/\t<P.types.size)
 (hvars:s.vars=[]) (hfn:∀ ds:List (DataW H),ds.length=fn.params.size->s.fn H ds={ results:=[.lit (.bool true)],args:=ds }) {tb:ZM} (ag:fn.resultTypes = #[tb]) (htb:P.underlying tb=some .bool)
 (hok:∀ dts,Dt.tyL P dts fn.params.toList->Ok P f (dts.map Dt.sv) [] (.ret (bl true)) [])
 (args:Array Value) (ds gs:List (DataW H)) (before:List MemPlace)
 (hval:∀ (j:Nat) t v,fn.params[j]? = some t->args[j]? = some v->Value.okWide P W r b0 t v) (hW:DataW.Whole enc P fn.params.toList s.vars false W args.toList ds gs before)
 (hsz:(DataW.weightsEach P (fn.params.toList++s.plain.varTypes P) (ds++gs)).all (· <= reachBytes)=true) :
 Calls P f args W λe W'=>∃ v,e=.returned v/\s.post enc P fn false true false false W args v W':=by
 have hW':=hW;obtain⟨p,q,hA,hV,rfl,hfz,hnd⟩:=hW;rw[hvars]at hV;obtain⟨rfl,rfl⟩:=trodVars_none hV;have hwk:∀ (ts:List ZM) (us:List ZM) (ds:List (DataW H)),ds.length=ts.length->(DataW.weightsEach P (ts++us) (ds++[])).all (· <= reachBytes)=true->wOk (DataW.weightsEach P ts ds):=by
  intro ts us ds
  induction ts generalizing ds with
  |nil=>intro h _; cases ds with|nil=>intro n hn; simp[DataW.weightsEach]at hn|cons d r=>simp at h
  |cons t ts ih =>
   intro h h2
   cases ds with
   |nil=>simp at h
   |cons d r =>
    simp only[Vv,DataW.weightsEach,List.all_append,Va]at h2;rw[DataW.weightsEach,Qth];exact⟨λn hn=>by simpa using Vi.1 h2.1 n hn,ih r (by simpa using h) h2.2⟩
 have hS':∀ t∈fn.params.toList,Qh4 P t=true:=λt ht=>Vi.1 hS t ht;obtain⟨dts,h1,h2⟩:=QrF hS' (λj t v ht hv=>hval j t v (by simpa using ht) (by simpa using hv)) hA (hwk _ _ _ (Qp3 hA) hsz);have h3:=QDN (hok dts h1) hg h2;refine h3.mono λe W' ⟨he,bel⟩ => ?_;subst he;have hlen:ds.length=fn.params.size:=by rw[Qp3 hA]; simp
 have hf2:=hfn (ds++[]) (by simpa using hlen);refine⟨_,rfl,ds,[],_,[],p,[],hW',?_,?_,?_,bel.frame _,λh=>by cases h⟩
 . rw[ag,hf2];exact trodAll_mk1 (shut_bool htb true)
 . rw[hf2];simpa using QwG hl bel hr hA
 . rw[hf2,hvars]; rfl
end
end Go.Ab
