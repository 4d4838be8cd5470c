/- Steps of the proof. -/
import Derived.Test.YtmkdpmfhlfhjkaaGreatDoorCore4
set_option linter.all false
namespace Go.Ab
open Go.ChangeShapes Go.WideShapes Go.ChangeAt Go.RowKit
section
theorem Qts {a b:List Nat}:wOk (a++b)↔wOk a/\wOk b:=by
 letI:QR:=⟨λ_=>none⟩
 exact QkH
variable {H:Type} {enc:ZK×Value->H} {P:ZL} {W:ZM} {base:Nat} {spare:Nat->Bool} {held:Bool}
theorem Qsu {ts:List ZK} {vs:ZI} {ds:List (DataW H)} {p:List MemPlace} (h:DataW.TrodAll enc P W base spare held ts vs ds p):ds.length=ts.length:=by
 letI:QR:=⟨λ_=>none⟩
 exact Qqc h
theorem QvI (hl:laidOutB P=true) {W':ZM} (hb:Below W.heap.size W W') {ts:List ZK} {vs:ZI} {ds:List (DataW H)} {p:List MemPlace}
 (hr:∀ t∈ts,P.readableRec t=true/\t<P.types.size) (h:DataW.TrodAll enc P W 0 (λ_=>true) true ts vs ds p):DataW.TrodAll enc P W' 0 (λb=>decide (b<W.heap.size)) true ts vs ds p:=by
 letI:QR:=⟨λ_=>none⟩
 exact Qpx hl hb hr h
end
section
variable [QR] [QP] [Qv]
theorem Qwz {F F':QP} {W:ZM} {l:List Int} {v:Value} (h : @VR F (st0 W) (.slc (QM l) l.length) v) : @VR F' (st0 W) (.slc (QM l) l.length) v:=by
 have hi:∀ (j:Nat) (s:SV),(QM l)[j]? = some s->∃ n,s=i64 n:=by
  intro j s hs;simp only[QM,Vp,VY]at hs;obtain⟨n,_,rfl⟩:=hs; exact⟨n,rfl⟩
 generalize QM l=cs at *;generalize l.length=n at *
 cases h with
 |nilslc=>exact .nilslc
 |slc cells len a cap us hc hl hm hh =>
  have hv:∀ (j:Nat) (s:SV) (u:Value),cs[j]? = some s->us[j]? = some u->∃ n,s=i64 n/\u=.int .i64 n:=by
   intro j s u hs hu;obtain⟨n,rfl⟩:=hi j s hs;have:=hh j _ u hs hu
   cases this
   exact⟨n,rfl,rfl⟩
  refine .slc _ _ a cap us hc hl ⟨hm.1,λ_=>rw0 W _,λ_ _=>.inr ?_⟩ λj s u hs hu => ?_
  . rw[Vn];intro u hu;obtain⟨j,hj,rfl⟩:=Y3 hu;obtain⟨n,_,h2⟩:=hv j _ us[j] (Ve (by omega)) (Ve hj);rw[h2]; rfl
  . obtain⟨n,rfl,rfl⟩:=hv j s u hs hu;exact .val _
def QiG (P:ZL) (t:ZK):Bool:=match P.underlying t with
 |some (.int _)=>true
 |some .bool=>true
 |some .string=>true
 |some (.slice e)=>(match P.underlying e with|some (.int .i64)=>decide (1<=P.bytesOf e)|_=>false)
 |_=>false
theorem QmU {P:ZL} {e:ZK} (he:P.underlying e=some (.int .i64)):∀ zs:List Dt,Dt.tyA P zs e->∃ l:List Int,Dt.cellsL zs=QM l/\l.length=zs.length
 |[],_=>⟨[],rfl,rfl⟩
 |y::r,hty=>by
  rw[Dt.tyA]at hty;obtain⟨l,g1,g2⟩:=QmU he r hty.2;have h:=hty.1
  cases y with
  |int k n =>
   simp only[Dt.ty,he,Option.some.injEq,TypeDesc.int.injEq]at h;obtain⟨rfl,_⟩:=h;exact⟨n::l,by simp only[Dt.cellsL,g1,Dt.cells]; rfl,by simp[g2]⟩
  |bool b=>simp[Dt.ty,he]at h
  |str s=>simp[Dt.ty,he]at h
  |sl l=>simp[Dt.ty,he]at h
  |agg l=>simp[Dt.ty,he]at h
variable {H:Type} {enc:ZK×Value->H} {P:ZL} {W:ZM} {base b0:Nat} {spare:Nat->Bool} {held:Bool} {r:Reach}
theorem Qyk {t:ZK} (hc:QiG P t=true) {v:Value} {d:DataW H} {p:List MemPlace} (hval:Value.okWide P W r b0 t v) (hd:DataW.Trod enc P W base spare held t v d p) (hw:wOk (d.weights P t)) :
 ∃ dt:Dt,dt.ty P t/\VR (st0 W) dt.sv v:=by
 obtain⟨fuel,h⟩:=hd;unfold QiG at hc;split at hc
 . rename_i k ht;obtain⟨n,rfl⟩:=okWide_int ht hval;obtain⟨m,he,_,hwf⟩:=DataW.trod_int ht h;have he:n=m:=by simpa[Value.cells]using he
   subst he;exact⟨.int k n,⟨ht,hwf⟩,.val _⟩
 . rename_i ht;obtain⟨b,rfl⟩:=okWide_bool ht hval;exact⟨.bool b,ht,.val _⟩
 . rename_i ht;obtain⟨s,rfl⟩:=okWide_string ht hval;obtain⟨s',he,hd,hs⟩:=DataW.trod_string ht h;have he:s=s':=by simpa[Value.cells]using he
   subst he;have hd:d=.lit (.string s.data.toList):=by simpa using Zp Prod.fst hd
   subst hd;refine⟨.str s,⟨ht,?_⟩,.val _⟩;have:=hw s.data.toList.length (by simp[DataW.weights]);simpa using this
 . rename_i e ht;split at hc
   . rename_i he;obtain⟨a,len,cap,rfl⟩:=okWide_slice ht hval;have hS:∀ u∈[t,e],QiM P [t,e] u=true:=by
      intro u hu;simp only[Vd,Vu,Zt]at hu;rcases hu with rfl|rfl
      . unfold QiM; rw[ht]; simpa using hc
      . unfold QiM; rw[he]
     obtain⟨dt,k1,k2,_⟩ := @QA9 (⟨λ_=>none⟩) frNone knNone (@QeR.mk knNone rfl) (@Qff.mk frNone rfl) H enc P W base spare held [t,e] hS fuel t _ _ h hw (by simp)
     cases dt with
     |sl l =>
      have k1':=k1;simp only[Dt.ty,ht,Option.some.injEq,TypeDesc.slice.injEq]at k1;obtain⟨e',rfl,_,k3⟩:=k1;obtain⟨zs,z1,z2⟩:=QmU he l k3;refine⟨.sl l,k1',?_⟩;have hc1:(Dt.sl l).cells=[.slc (QM zs) zs.length]:=by rw[Dt.cells,z1,z2]
      have hsv:(Dt.sl l).sv=.slc (QM zs) zs.length:=by simp only[Dt.sv,hc1]; rfl
      rw[hc1]at k2;rw[hsv];exact Qwz (k2.2 0 _ _ rfl rfl)
     |int k n=>simp[Dt.ty,ht]at k1
     |bool b=>simp[Dt.ty,ht]at k1
     |str s=>simp[Dt.ty,ht]at k1
     |agg l=>simp[Dt.ty,ht]at k1
   . cases hc
 . cases hc
theorem Qqu:∀ {ts:List ZK} {vs:ZI} {ds:List (DataW H)} {p:List MemPlace},(∀ t∈ts,QiG P t=true) ->
 (∀ (j:Nat) t v,ts[j]? = some t->vs[j]? = some v->Value.okWide P W r b0 t v)->DataW.TrodAll enc P W base spare held ts vs ds p->wOk (DataW.weightsEach P ts ds) ->
 ∃ dts,Dt.tyL P dts ts/\VRs (st0 W) (dts.map Dt.sv) vs
 |[],vs,ds,p,hb,hval,h,hw=>by
  obtain⟨rfl,_,_⟩:=trodAll_nil h; exact⟨[],rfl,VRs.nil _⟩
 |t::ts,vs,ds,p,hb,hval,h,hw=>by
  obtain⟨v,vs',d,ds',p,q,rfl,rfl,rfl,h1,h2⟩:=trodAll_cons h;rw[DataW.weightsEach,Qts]at hw;obtain⟨dt,g1,g2⟩:=Qyk (hb t (by simp)) (hval 0 t v rfl rfl) h1 hw.1;obtain⟨dts,g3,g4⟩:=Qqu (λt ht=>hb t (by simp[ht])) (λj t v ht hv=>hval (j+1) t v (by simpa using ht) (by simpa using hv)) h2 hw.2;exact⟨dt::dts,⟨g1,g3⟩,VRs.cons g2 g4⟩
theorem law_contract_flat [QeR] {f:ZN} {fn:Func} {s:ChangeSpec} (hS:(fn.params.toList.all λt=>QiG P t)=true) (hg:(st0 W).GL) (hl:laidOutB P=true) (hr:∀ t∈fn.params.toList,P.readableRec t=true/\t<P.types.size)
 (hvars:s.vars=[]) (hfn:∀ ds:List (DataW H),ds.length=fn.params.size->s.fn H ds={ results:=[.lit (.bool true)],args:=ds }) {tb:ZK} (hres:fn.resultTypes = #[tb]) (htb:P.underlying tb=some .bool)
 (hok:∀ dts,Dt.tyL P dts fn.params.toList->Ok P f (dts.map Dt.sv) [] (.ret (bl true)) [])
 (args:Array Value) (ds gs:List (DataW H)) (before:List MemPlace)
 (hval:∀ (j:Nat) t v,fn.params[j]? = some t->args[j]? = some v->Value.okWide P W r b0 t v) (hW:DataW.Whole enc P fn.params.toList s.vars false W args.toList ds gs before)
 (hsz:(DataW.weightsEach P (fn.params.toList++s.plain.varTypes P) (ds++gs)).all (· <= reachBytes)=true) :
 Calls P f args W λe W'=>∃ v,e=.returned v/\s.post enc P fn false true false false W args v W':=by
 have hW':=hW;obtain⟨p,q,hA,hV,rfl,hfz,hnd⟩:=hW;rw[hvars]at hV;obtain⟨rfl,rfl⟩:=trodVars_none hV;have hwk:∀ (ts:List ZK) (us:List ZK) (ds:List (DataW H)),ds.length=ts.length->(DataW.weightsEach P (ts++us) (ds++[])).all (· <= reachBytes)=true->wOk (DataW.weightsEach P ts ds):=by
  intro ts us ds
  induction ts generalizing ds with
  |nil=>intro h _; cases ds with|nil=>intro n hn; simp[DataW.weightsEach]at hn|cons d r=>simp at h
  |cons t ts ih =>
   intro h h2
   cases ds with
   |nil=>simp at h
   |cons d r =>
    simp only[Vr,DataW.weightsEach,List.all_append,Va]at h2;rw[DataW.weightsEach,Qts];exact⟨λn hn=>by simpa using Vn.1 h2.1 n hn,ih r (by simpa using h) h2.2⟩
 have hS':∀ t∈fn.params.toList,QiG P t=true:=λt ht=>Vn.1 hS t ht;obtain⟨dts,h1,h2⟩:=Qqu hS' (λj t v ht hv=>hval j t v (by simpa using ht) (by simpa using hv)) hA (hwk _ _ _ (Qsu hA) hsz);have h3:=Qzk (hok dts h1) hg h2;refine h3.mono λe W' ⟨he,bel⟩ => ?_;subst he;have hlen:ds.length=fn.params.size:=by rw[Qsu hA]; simp
 have hf2:=hfn (ds++[]) (by simpa using hlen);refine⟨_,rfl,ds,[],_,[],p,[],hW',?_,?_,?_,bel.frame _,λh=>by cases h⟩
 . rw[hres,hf2];exact trodAll_mk1 (shut_bool htb true)
 . rw[hf2];simpa using QvI hl bel hr hA
 . rw[hf2,hvars]; rfl
end
end Go.Ab
