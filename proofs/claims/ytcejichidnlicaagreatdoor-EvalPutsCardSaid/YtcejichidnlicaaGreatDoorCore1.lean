/-
  Steps of the proof: contracts of functions and plain facts that the statement rests on.
-/
import Derived.WalkKit
import Derived.Orders
import Derived.RangeFuncRecord
import Derived.MapKept
import Derived.LaidEql
import Derived.ChangeKeysEq
import Derived.Laws.StructEq
set_option linter.all false
namespace Go.Ab
inductive LSt where
 | ready
 | busy
 | ret
 | exit (id:Nat)
 | goto (l:Nat)
inductive SV where
 | any
 | val (v:Value)
 | gd (b:Bool) (x:SV)
 | slc (cells:List SV) (len:Nat)
 | own (i off len sz ver:Nat)
 | ptr (s:SV) (k:Nat)
 | agg (l:List SV)
 | tup (l:List SV)
 | fn (f:Fn) (first cap:List SV)
 | ifc (t:TypeId) (x:SV)
 | yl (i:Nat)
 | lp (k:Nat) (ok:Loop->Prop) (st:LSt)
 | mk (ks:List Value)
 | mp (i ver:Nat)
 | mpf (ks:List Value) (vs:List SV)
 | pn (x:SV)
 deriving Inhabited
structure AO where
 cells:List SV
 ty:TypeId
 ver:Nat
 live:Bool
def AO.own (o:AO):Bool:=o.live || !o.cells.isEmpty
theorem AO.own_live {o:AO} (h:o.live=true):o.own=true:=by simp[AO.own,h]
theorem AO.own_nil {o:AO} (h:o.own=true) (hc:o.cells=[]):o.live=true:=by simpa[AO.own,hc]using h
def LpSt (r:Loop):LSt->Prop
 | .ready=>r.state=.ready∧r.pending=none
 | .busy=>r.state=.busy
 | .ret=>r.state=.done∧r.pending=some .ret
 | .exit id=>r.state=.done∧r.pending=some (.exit id)
 | .goto l=>r.state=.done∧r.pending=some (.goto l)
mutual
def SV.under (n:Nat):SV->Bool
 | .any=>true
 | .val _=>true
 | .gd b x => !b||x.under n
 | .slc cs _=>SV.underL n cs
 | .own i _ _ _ _=>decide (i<n)
 | .ptr s _=>s.under n
 | .agg l=>SV.underL n l
 | .tup l=>SV.underL n l
 | .fn _ a b=>SV.underL n a&&SV.underL n b
 | .ifc _ x=>x.under n
 | .yl i=>decide (i<n)
 | .lp _ _ _=>true
 | .mk _=>true
 | .mp i _=>decide (i<n)
 | .mpf _ vs=>SV.underL n vs
 | .pn x=>x.under n
def SV.underL (n:Nat):List SV->Bool
 | []=>true
 | x::r=>x.under n&&SV.underL n r
end
theorem SV.underL_iff (n:Nat):∀ l:List SV,SV.underL n l=true↔∀ x∈l,x.under n=true
 | []=>by simp[SV.underL]
 | x::r=>by simp[SV.underL,SV.underL_iff n r]
theorem SV.underL_append (n:Nat) (a b:List SV):SV.underL n (a++b)=(SV.underL n a&&SV.underL n b):=by
 induction a with
 | nil=>simp[SV.underL]
 | cons x r ih=>simp[SV.underL,ih,Bool.and_assoc]
mutual
theorem SV.under_mono {n m:Nat} (h:n≤m):∀ s:SV,s.under n=true->s.under m=true
 | .any,_=>by simp[SV.under]
 | .val _,_=>by simp[SV.under]
 | .gd b x,h1=>by cases b<;>simp only[SV.under,Bool.not_true,Bool.not_false,Bool.true_or,Bool.false_or]at *; exact SV.under_mono h x h1
 | .slc cs _,h1=>by simp only[SV.under]at *; exact SV.underL_mono h cs h1
 | .own i _ _ _ _,h1=>by simp only[SV.under,decide_eq_true_eq]at *; omega
 | .ptr s _,h1=>by simp only[SV.under]at *; exact SV.under_mono h s h1
 | .agg l,h1=>by simp only[SV.under]at *; exact SV.underL_mono h l h1
 | .tup l,h1=>by simp only[SV.under]at *; exact SV.underL_mono h l h1
 | .fn _ a b,h1=>by
  simp only[SV.under,Bool.and_eq_true]at *
  exact⟨SV.underL_mono h a h1.1,SV.underL_mono h b h1.2⟩
 | .ifc _ x,h1=>by simp only[SV.under]at *; exact SV.under_mono h x h1
 | .yl i,h1=>by simp only[SV.under,decide_eq_true_eq]at *; omega
 | .lp _ _ _,_=>by simp[SV.under]
 | .mk _,_=>by simp[SV.under]
 | .mp i _,h1=>by simp only[SV.under,decide_eq_true_eq]at *; omega
 | .mpf _ vs,h1=>by simp only[SV.under]at *; exact SV.underL_mono h vs h1
 | .pn x,h1=>by simp only[SV.under]at *; exact SV.under_mono h x h1
theorem SV.underL_mono {n m:Nat} (h:n≤m):∀ l:List SV,SV.underL n l=true->SV.underL m l=true
 | [],_=>by simp[SV.underL]
 | x::r,h1=>by
  simp only[SV.underL,Bool.and_eq_true]at *
  exact⟨SV.under_mono h x h1.1,SV.underL_mono h r h1.2⟩
end
def SV.isRw:SV->Bool
 | .slc _ _ | .own _ _ _ _ _=>true
 | _=>false
def SV.isOwn:SV->Bool
 | .own _ _ _ _ _=>true
 | _=>false
def SV.isCell:SV->Bool
 | .val v=>v.oneCell'
 | .slc _ _ | .own _ _ _ _ _ | .ptr _ _ | .fn _ _ _ | .ifc _ _ | .mp _ _ | .mpf _ _=>true
 | .pn x=>x.isRw
 | _=>false
class FrEnv where
 fresh:Bool
instance (priority:=low) frNone:FrEnv:=⟨false⟩
class KnOld [FrEnv]:Prop where
 old:FrEnv.fresh=false
instance : @KnOld frNone:=⟨rfl⟩
def isNumV:Value->Bool
 | .int _ _=>true
 | .iface _ _=>true
 | .bool _=>true
 | _=>false
def plainB (w:World) (b:Nat):Prop:=∃ (c:Array Value) (T:TypeId),w.heap[b]? = some (Obj.cells c T (0,0))
variable [FrEnv]
structure St where
 ρ:Nat->Option Nat
 H:List AO
 w:World
def St.rw (S:St) (k:Nat):Prop:=∃ i o,S.H[i]? = some o∧o.own=true∧S.ρ i=some k
def St.Imm (S:St) (a:Addr) (us:List Value):Prop :=
 (∀ j u,us[j]? = some u->S.w.cell? (a.add j)=some u)∧(us≠[]->¬ S.rw a.block)∧(FrEnv.fresh=true->us≠[]->plainB S.w a.block∨us.all isNumV=true)
def St.OwnAt (S:St) (i off len sz:Nat) (a:Option Addr) (cap:Nat):Prop :=
 match S.ρ i with
 | none=>len=0∧cap=0
 | some b=>cap=0∨(a=some ⟨b,off,none⟩∧∃ T n,S.w.shape? b=some (T,n)∧off+cap*sz≤n)
def St.Pl (S:St) (v:Value):Prop:=∀ a len cap,v=.slice (some a) len cap->len≠0->plainB S.w a.block∧¬ S.rw a.block
inductive VR (S:St):SV->Value->Prop
 | any (v:Value):VR S .any v
 | val (v:Value):VR S (.val v) v
 | gd (b:Bool) (x:SV) (v:Value) (h0:b=false->v=undef) (h:b=true->VR S x v):VR S (.gd b x) v
 | nilslc:VR S (.slc [] 0) (.slice none 0 0)
 | slc (cells:List SV) (len:Nat) (a:Addr) (cap:Nat) (us:List Value) (hc:len≤cap) (hl:us.length=cells.length) (hi:S.Imm a us)
  (h:∀ (j:Nat) (s:SV) (u:Value),cells[j]? = some s->us[j]? = some u->VR S s u):VR S (.slc cells len) (.slice (some a) len cap)
 | own (i off len sz ver:Nat) (a:Option Addr) (cap:Nat) (o:AO) (ho:S.H[i]? = some o) (hv:ver≤o.ver) (hc:len≤cap) (hz:a=none->len=0)
  (h:o.ver=ver->S.OwnAt i off len sz a cap):VR S (.own i off len sz ver) (.slice a len cap)
 | ptrI (cells:List SV) (len k:Nat) (a:Addr) (us:List Value) (hl:us.length=cells.length) (hi:S.Imm a us)
  (h:∀ (j:Nat) (s:SV) (u:Value),cells[j]? = some s->us[j]? = some u->VR S s u):VR S (.ptr (.slc cells len) k) (.pointer (some (a.add k)))
 | ptrO (i off len sz ver k:Nat) (a:Addr) (o:AO) (ho:S.H[i]? = some o) (hv:ver≤o.ver)
  (h:o.ver=ver->∃ b,S.ρ i=some b∧a=⟨b,off+k,none⟩):VR S (.ptr (.own i off len sz ver) k) (.pointer (some a))
 | agg (l:List SV) (us:List Value) (hl:us.length=l.length) (h:∀ (j:Nat) (s:SV) (u:Value),l[j]? = some s->us[j]? = some u->VR S s u) :
  VR S (.agg l) (.agg us.toArray)
 | tup (l:List SV) (us:List Value) (hl:us.length=l.length) (h:∀ (j:Nat) (s:SV) (u:Value),l[j]? = some s->us[j]? = some u->VR S s u) :
  VR S (.tup l) (.tuple us.toArray)
 | fn (f:Fn) (x y:List SV) (us vs:List Value) (hl:us.length=x.length) (h:∀ (j:Nat) (s:SV) (u:Value),x[j]? = some s->us[j]? = some u->VR S s u)
  (hl':vs.length=y.length) (h':∀ (j:Nat) (s:SV) (u:Value),y[j]? = some s->vs[j]? = some u->VR S s u):VR S (.fn f x y) (.func f us.toArray vs.toArray)
 | ifc (t:TypeId) (x:SV) (v:Value) (h:VR S x v):VR S (.ifc t x) (.iface t v)
 | yl (i l:Nat) (o:AO) (ho:S.H[i]? = some o) (h:o.ver=0->S.ρ i=some l):VR S (.yl i) (.func (.yield l) #[] #[])
 | mp (i ver l:Nat) (o:AO) (ho:S.H[i]? = some o) (hv:ver≤o.ver) (h:o.ver=ver->S.ρ i=some l):VR S (.mp i ver) (.map (some l))
 | mpf (vs:List SV) (l:Nat) (es:Array MapEntry) (cl:Nat) (us:List Value) (hb:S.w.heap[l]? = some (Obj.map es cl)) (hn:¬ S.rw l) (hu:us=es.toList.map (·.val)) (hl:us.length=vs.length)
  (h:∀ (j:Nat) (s:SV) (u:Value),vs[j]? = some s->us[j]? = some u->VR S s u):VR S (.mpf (es.toList.map (·.key)) vs) (.map (some l))
 | pn (x:SV) (v:Value) (h:VR S x v) (hr:x.isRw=true) (hp:x.isOwn=false->S.Pl v):VR S (.pn x) v
def VRs (S:St) (l:List SV) (us:List Value):Prop:=us.length=l.length∧∀ (j:Nat) (s:SV) (u:Value),l[j]? = some s->us[j]? = some u->VR S s u
theorem VRs.nil (S:St):VRs S [] []:=⟨rfl,fun j s u h=>by simp at h⟩
theorem VRs.cons {S:St} {s:SV} {u:Value} {l:List SV} {us:List Value} (h:VR S s u) (hs:VRs S l us):VRs S (s::l) (u::us):=by
 refine⟨by simp[hs.1],?_⟩
 intro j s' u' h1 h2
 cases j with
 | zero=>simp at h1 h2; subst h1 h2; exact h
 | succ j=>simp at h1 h2; exact hs.2 j _ _ h1 h2
theorem VRs.append {S:St} {l l':List SV} {us us':List Value} (h:VRs S l us) (h':VRs S l' us'):VRs S (l++l') (us++us'):=by
 refine⟨by simp[h.1,h'.1],?_⟩
 intro j s u h1 h2
 rw[List.getElem?_append]at h1 h2
 by_cases hj:j<l.length
 · rw[if_pos hj]at h1
   rw[if_pos (by rw[h.1]; exact hj)]at h2
   exact h.2 j _ _ h1 h2
 · rw[if_neg hj]at h1
   rw[if_neg (by rw[h.1]; exact hj),h.1]at h2
   exact h'.2 _ _ _ h1 h2
theorem VRs.get {S:St} {l:List SV} {us:List Value} (h:VRs S l us) {j:Nat} {s:SV} (hj:l[j]? = some s):∃ u,us[j]? = some u∧VR S s u:=by
 have hlt:j<us.length:=by
  rw[h.1]
  rcases Nat.lt_or_ge j l.length with h1 | h1
  · exact h1
  · rw[List.getElem?_eq_none h1]at hj; cases hj
 exact⟨us[j],List.getElem?_eq_getElem hlt,h.2 j s _ hj (List.getElem?_eq_getElem hlt)⟩
theorem VRs.take {S:St} {l:List SV} {us:List Value} (h:VRs S l us) (n:Nat):VRs S (l.take n) (us.take n):=by
 refine⟨by simp[h.1],?_⟩
 intro j s u h1 h2
 rw[List.getElem?_take]at h1 h2
 by_cases hj:j<n
 · rw[if_pos hj]at h1 h2; exact h.2 j _ _ h1 h2
 · rw[if_neg hj]at h1; cases h1
theorem VRs.drop {S:St} {l:List SV} {us:List Value} (h:VRs S l us) (n:Nat):VRs S (l.drop n) (us.drop n):=by
 refine⟨by simp[h.1],?_⟩
 intro j s u h1 h2
 rw[List.getElem?_drop]at h1 h2
 exact h.2 _ _ _ h1 h2
theorem VRs.set {S:St} {l:List SV} {us:List Value} (h:VRs S l us) (i:Nat) {s:SV} {u:Value} (hs:VR S s u):VRs S (l.set i s) (us.set i u):=by
 refine⟨by simp[h.1],?_⟩
 intro j s' u' h1 h2
 rw[List.getElem?_set]at h1 h2
 by_cases hj:i=j
 · subst hj
   simp only[if_true]at h1 h2
   by_cases hl:i<l.length
   · rw[if_pos hl]at h1
     rw[if_pos (by rw[h.1]; exact hl)]at h2
     cases h1; cases h2; exact hs
   · rw[if_neg hl]at h1; cases h1
 · rw[if_neg hj]at h1 h2; exact h.2 _ _ _ h1 h2
structure Ext (n:Nat) (S S':St):Prop where
 obj:∀ i o,i<n->S.H[i]? = some o->∃ o',S'.H[i]? = some o'∧o.ver≤o'.ver∧(o.ver=o'.ver->S'.ρ i=S.ρ i)
 imm:∀ k,k<S.w.heap.size->¬ S.rw k->S'.w.heap[k]? = S.w.heap[k]? ∧ ¬ S'.rw k
 size:S.w.heap.size≤S'.w.heap.size
 shape:∀ k T m,S.w.shape? k=some (T,m)->S'.w.shape? k=some (T,m)
 loops:∀ (k:Nat) (r:Loop),S.w.heap[k]? = some (Obj.loop r)->∃ r',S'.w.heap[k]? = some (Obj.loop r')
 os:S'.w.os=S.w.os
 tape:S'.w.tape=S.w.tape
 output:S'.w.output=S.w.output
theorem Ext.refl (n:Nat) (S:St):Ext n S S :=
 ⟨fun _ o _ h=>⟨o,h,Nat.le_refl _,fun _=>rfl⟩,fun _ _ h=>⟨rfl,h⟩,Nat.le_refl _,fun _ _ _ h=>h,fun _ r h=>⟨r,h⟩,rfl,rfl,rfl⟩
theorem Ext.trans {n:Nat} {S S' S'':St} (h:Ext n S S') (h':Ext n S' S''):Ext n S S'' where
 obj:=by
  intro i o hi ho
  obtain⟨o',ho',h1,h2⟩:=h.obj i o hi ho
  obtain⟨o'',ho'',h3,h4⟩:=h'.obj i o' hi ho'
  exact⟨o'',ho'',Nat.le_trans h1 h3,fun e=>(h4 (by omega)).trans (h2 (by omega))⟩
 imm:=by
  intro k hk hn
  obtain⟨h1,h2⟩:=h.imm k hk hn
  obtain⟨h3,h4⟩:=h'.imm k (Nat.lt_of_lt_of_le hk h.size) h2
  exact⟨h3.trans h1,h4⟩
 size:=Nat.le_trans h.size h'.size
 shape:=fun k T m hs=>h'.shape k T m (h.shape k T m hs)
 loops:=fun k r hk=>let ⟨r',h1⟩:=h.loops k r hk; h'.loops k r' h1
 os:=h'.os.trans h.os
 tape:=h'.tape.trans h.tape
 output:=h'.output.trans h.output
theorem Ext.mono {n m:Nat} {S S':St} (h:Ext n S S') (hm:m≤n):Ext m S S' :=
 ⟨fun i o hi ho=>h.obj i o (by omega) ho,h.imm,h.size,h.shape,h.loops,h.os,h.tape,h.output⟩
theorem Ext.len {n:Nat} {S S':St} (h:Ext n S S') (hn:S.H.length≤n):S.H.length≤S'.H.length:=by
 rcases Nat.lt_or_ge S'.H.length S.H.length with h1 | h1
 · have h2:S'.H.length<S.H.length:=h1
   obtain⟨o',ho',_⟩:=h.obj S'.H.length S.H[S'.H.length] (by omega) (List.getElem?_eq_getElem h2)
   rw[List.getElem?_eq_none (Nat.le_refl _)]at ho'; cases ho'
 · exact h1
structure ExtV (n:Nat) (S S':St):Prop where
 obj:∀ i o,i<n->S.H[i]? = some o->∃ o',S'.H[i]? = some o'∧o.ver≤o'.ver∧(o.ver=o'.ver->S'.ρ i=S.ρ i)
 imm:∀ (k:Nat) (c:Array Value) (T:TypeId) (f:Nat×Nat),S.w.heap[k]? = some (Obj.cells c T f)->¬ S.rw k->S'.w.heap[k]? = S.w.heap[k]? ∧ ¬ S'.rw k
 shape:∀ k T m,S.w.shape? k=some (T,m)->S'.w.shape? k=some (T,m)
 immM:∀ (k:Nat) (es:Array MapEntry) (cl:Nat),S.w.heap[k]? = some (Obj.map es cl)->¬ S.rw k->S'.w.heap[k]? = S.w.heap[k]? ∧ ¬ S'.rw k
theorem Ext.v {n:Nat} {S S':St} (h:Ext n S S'):ExtV n S S' :=
 ⟨h.obj,fun k c T f hk hn=>h.imm k (by rcases Nat.lt_or_ge k S.w.heap.size with h1 | h1; exact h1; rw[Array.getElem?_eq_none h1]at hk; cases hk) hn,h.shape,
  fun k es cl hk hn=>h.imm k (by rcases Nat.lt_or_ge k S.w.heap.size with h1 | h1; exact h1; rw[Array.getElem?_eq_none h1]at hk; cases hk) hn⟩
theorem St.Imm.ext {n:Nat} {S S':St} {a:Addr} {us:List Value} (h:S.Imm a us) (he:ExtV n S S'):S'.Imm a us:=by
 obtain⟨h1,h2⟩:=h
 have key:us≠[]->∃ (c:Array Value) (T:TypeId) (f:Nat×Nat),S.w.heap[a.block]? = some (Obj.cells c T f):=by
  intro hne
  cases us with
  | nil=>exact absurd rfl hne
  | cons u r =>
   have:=h1 0 u (by simp)
   have e:(a.add 0).block=a.block:=by unfold Addr.add; split<;>rfl
   unfold World.cell? at this
   rw[e]at this
   split at this
   · rename_i hb
     exact⟨_,_,_,hb⟩
   · cases this
 have hblk:∀ j,(a.add j).block=a.block:=by intro j; unfold Addr.add; split<;>rfl
 refine⟨?_,?_,fun hf hne => ?_⟩
 · intro j u hj
   have hne:us≠[]:=by intro e; subst e; simp at hj
   obtain⟨c,T,f,hk⟩:=key hne
   obtain⟨h3,_⟩:=he.imm a.block c T f hk (h2.1 hne)
   have:=h1 j u hj
   unfold World.cell? at this ⊢
   rw[hblk]at this ⊢
   rw[h3]; exact this
 · intro hne
   obtain⟨c,T,f,hk⟩:=key hne
   exact(he.imm a.block c T f hk (h2.1 hne)).2
 · refine(h2.2 hf hne).imp (fun⟨c',T',hp⟩ => ?_) id
   obtain⟨c,T,f,hk⟩:=key hne
   exact⟨c',T',by rw[(he.imm a.block c T f hk (h2.1 hne)).1]; exact hp⟩
theorem St.Imm.part {S:St} {a a':Addr} {us us':List Value} (h:S.Imm a us) (hb:a'.block=a.block) (hs:∀ u∈us',u∈us):FrEnv.fresh=true->us'≠[]->plainB S.w a'.block∨us'.all isNumV=true:=by
 intro hf hne
 have hne':us≠[]:=by
  intro e; subst e
  cases us' with
  | nil=>exact hne rfl
  | cons u r=>exact absurd (hs u (List.mem_cons_self ..)) (by simp)
 rw[hb]
 refine(h.2.2 hf hne').imp id fun hn => ?_
 rw[List.all_eq_true]at hn ⊢
 exact fun u hu=>hn u (hs u hu)
theorem imm_part0 {S:St} {a:Addr}:FrEnv.fresh=true->([]:List Value)≠[]->plainB S.w a.block∨([]:List Value).all isNumV=true:=fun _ h=>absurd rfl h
theorem St.OwnAt.ext {n:Nat} {S S':St} {i off len sz cap:Nat} {a:Option Addr} (h:S.OwnAt i off len sz a cap) (he:ExtV n S S') (hρ:S'.ρ i=S.ρ i):S'.OwnAt i off len sz a cap:=by
 unfold St.OwnAt at *
 rw[hρ]
 cases hb:S.ρ i with
 | none=>rw[hb]at h; exact h
 | some b =>
  rw[hb]at h
  rcases h with h | ⟨h1,T,m,h2,h3⟩
  · exact .inl h
  · exact .inr ⟨h1,T,m,he.shape _ _ _ h2,h3⟩
theorem St.Pl.extV {n:Nat} {S S':St} {v:Value} (h:S.Pl v) (he:ExtV n S S'):S'.Pl v:=fun a len cap e hl=>by
 obtain⟨⟨c,T,h1⟩,h2⟩:=h a len cap e hl
 obtain⟨h3,h4⟩:=he.imm a.block c T (0,0) h1 h2
 exact⟨⟨c,T,h3.trans h1⟩,h4⟩
theorem VR.extV {n:Nat} {S S':St} (he:ExtV n S S'):∀ {s:SV} {v:Value},VR S s v->(n=S.H.length∨s.under n=true)->VR S' s v:=by
 intro s v h
 induction h with
 | any v=>exact fun _=>.any v
 | val v=>exact fun _=>.val v
 | gd b x v h0 h ih=>exact fun hb=>.gd b x v h0 fun e=>ih e (by subst e; simpa[SV.under]using hb)
 | nilslc=>exact fun _=>.nilslc
 | slc cells len a cap us hc hl hi h ih =>
  intro hb
  refine .slc cells len a cap us hc hl (hi.ext he) fun j s u h1 h2=>ih j s u h1 h2 (hb.imp id fun hb => ?_)
  simp only[SV.under]at hb
  exact(SV.underL_iff n cells).1 hb s (List.mem_of_getElem? h1)
 | own i off len sz ver a cap o ho hv hc hz h =>
  intro hb
  have hi:i<n:=by
   rcases hb with hb | hb
   · rcases Nat.lt_or_ge i S.H.length with h1 | h1
     · omega
     · rw[List.getElem?_eq_none h1]at ho; cases ho
   · simpa[SV.under]using hb
  obtain⟨o',ho',h1,h2⟩:=he.obj i o hi ho
  exact .own i off len sz ver a cap o' ho' (Nat.le_trans hv h1) hc hz fun e=>(h (by omega)).ext he (h2 (by omega))
 | ptrI cells len k a us hl hi h ih =>
  intro hb
  refine .ptrI cells len k a us hl (hi.ext he) fun j s u h1 h2=>ih j s u h1 h2 (hb.imp id fun hb => ?_)
  simp only[SV.under]at hb
  exact(SV.underL_iff n cells).1 hb s (List.mem_of_getElem? h1)
 | ptrO i off len sz ver k a o ho hv h =>
  intro hb
  have hi:i<n:=by
   rcases hb with hb | hb
   · rcases Nat.lt_or_ge i S.H.length with h1 | h1
     · omega
     · rw[List.getElem?_eq_none h1]at ho; cases ho
   · simpa[SV.under]using hb
  obtain⟨o',ho',h1,h2⟩:=he.obj i o hi ho
  refine .ptrO i off len sz ver k a o' ho' (Nat.le_trans hv h1) fun e => ?_
  obtain⟨b,hb1,hb2⟩:=h (by omega)
  exact⟨b,(h2 (by omega)).trans hb1,hb2⟩
 | agg l us hl h ih =>
  intro hb
  refine .agg l us hl fun j s u h1 h2=>ih j s u h1 h2 (hb.imp id fun hb => ?_)
  simp only[SV.under]at hb
  exact(SV.underL_iff n l).1 hb s (List.mem_of_getElem? h1)
 | tup l us hl h ih =>
  intro hb
  refine .tup l us hl fun j s u h1 h2=>ih j s u h1 h2 (hb.imp id fun hb => ?_)
  simp only[SV.under]at hb
  exact(SV.underL_iff n l).1 hb s (List.mem_of_getElem? h1)
 | fn f x y us vs hl h hl' h' ih ih' =>
  intro hb
  refine .fn f x y us vs hl (fun j s u h1 h2=>ih j s u h1 h2 (hb.imp id fun hb => ?_)) hl' (fun j s u h1 h2=>ih' j s u h1 h2 (hb.imp id fun hb => ?_))
  · simp only[SV.under,Bool.and_eq_true]at hb
    exact(SV.underL_iff n x).1 hb.1 s (List.mem_of_getElem? h1)
  · simp only[SV.under,Bool.and_eq_true]at hb
    exact(SV.underL_iff n y).1 hb.2 s (List.mem_of_getElem? h1)
 | ifc t x v h ih=>exact fun hb=>.ifc t x v (ih (by simpa[SV.under]using hb))
 | yl i l o ho h =>
  intro hb
  have hi:i<n:=by
   rcases hb with hb | hb
   · rcases Nat.lt_or_ge i S.H.length with h1 | h1
     · omega
     · rw[List.getElem?_eq_none h1]at ho; cases ho
   · simpa[SV.under]using hb
  obtain⟨o',ho',h1,h2⟩:=he.obj i o hi ho
  exact .yl i l o' ho' fun e=>(h2 (by omega)).trans (h (by omega))
 | mp i ver l o ho hv h =>
  intro hb
  have hi:i<n:=by
   rcases hb with hb | hb
   · rcases Nat.lt_or_ge i S.H.length with h1 | h1
     · omega
     · rw[List.getElem?_eq_none h1]at ho; cases ho
   · simpa[SV.under]using hb
  obtain⟨o',ho',h1,h2⟩:=he.obj i o hi ho
  exact .mp i ver l o' ho' (Nat.le_trans hv h1) fun e=>(h2 (by omega)).trans (h (by omega))
 | mpf vs l es cl us hm hn hu hl h ih =>
  intro hb
  obtain⟨h1,h2⟩:=he.immM l es cl hm hn
  refine .mpf vs l es cl us (h1.trans hm) h2 hu hl fun j s u h3 h4=>ih j s u h3 h4 (hb.imp id fun hb => ?_)
  simp only[SV.under]at hb
  exact(SV.underL_iff n vs).1 hb s (List.mem_of_getElem? h3)
 | pn x v h hr hp ih=>exact fun hb=>.pn x v (ih (by simpa[SV.under]using hb)) hr fun ho=>(hp ho).extV he
theorem VR.extB {n:Nat} {S S':St} (he:Ext n S S') {s:SV} {v:Value} (h:VR S s v):(n=S.H.length∨s.under n=true)->VR S' s v:=h.extV he.v
theorem VR.ext {S S':St} (he:Ext S.H.length S S') {s:SV} {v:Value} (h:VR S s v):VR S' s v:=h.extB he (.inl rfl)
theorem VRs.ext {S S':St} (he:Ext S.H.length S S') {l:List SV} {us:List Value} (h:VRs S l us):VRs S' l us :=
 ⟨h.1,fun j s u h1 h2=>(h.2 j s u h1 h2).ext he⟩
theorem VRs.extB {n:Nat} {S S':St} (he:Ext n S S') {l:List SV} {us:List Value} (h:VRs S l us) (hb:SV.underL n l=true):VRs S' l us :=
 ⟨h.1,fun j s u h1 h2=>(h.2 j s u h1 h2).extB he (.inr ((SV.underL_iff n l).1 hb s (List.mem_of_getElem? h1)))⟩
theorem VRs.under {S:St} {l:List SV} {us:List Value} (hl:us.length=l.length) (h:∀ (j:Nat) (s:SV) (u:Value),l[j]? = some s->us[j]? = some u->s.under S.H.length=true):SV.underL S.H.length l=true:=by
 refine(SV.underL_iff _ _).2 fun s hs => ?_
 obtain⟨j,hj⟩:=List.getElem?_of_mem hs
 have hlt:j<us.length:=by
  rw[hl]
  rcases Nat.lt_or_ge j l.length with h1 | h1
  · exact h1
  · rw[List.getElem?_eq_none h1]at hj; cases hj
 exact h j s _ hj (List.getElem?_eq_getElem hlt)
theorem VR.under {S:St} {s:SV} {v:Value} (h:VR S s v):s.under S.H.length=true:=by
 have lt:∀ {i:Nat} {o:AO},S.H[i]? = some o->i<S.H.length:=by
  intro i o ho
  rcases Nat.lt_or_ge i S.H.length with h1 | h1
  · exact h1
  · rw[List.getElem?_eq_none h1]at ho; cases ho
 induction h with
 | any v=>rfl
 | val v=>rfl
 | gd b x v h0 h ih=>cases b<;>simp_all [SV.under]
 | nilslc=>simp[SV.under,SV.underL]
 | slc cells len a cap us hc hl hi h ih=>simpa only[SV.under]using VRs.under hl ih
 | own i off len sz ver a cap o ho hv hc hz h=>simpa[SV.under]using lt ho
 | ptrI cells len k a us hl hi h ih=>simpa only[SV.under]using VRs.under hl ih
 | ptrO i off len sz ver k a o ho hv h=>simpa[SV.under]using lt ho
 | agg l us hl h ih=>simpa only[SV.under]using VRs.under hl ih
 | tup l us hl h ih=>simpa only[SV.under]using VRs.under hl ih
 | fn f x y us vs hl h hl' h' ih ih'=>simp only[SV.under,Bool.and_eq_true]; exact⟨VRs.under hl ih,VRs.under hl' ih'⟩
 | ifc t x v h ih=>simpa only[SV.under]using ih
 | yl i l o ho h=>simpa[SV.under]using lt ho
 | mp i ver l o ho hv h=>simpa[SV.under]using lt ho
 | mpf vs l es cl us hm hn hu hl h ih=>simpa only[SV.under]using VRs.under hl ih
 | pn x v h hr hp ih=>simpa only[SV.under]using ih
theorem VR.isRw {S:St} {x:SV} {v:Value} (h:VR S x v) (hr:x.isRw=true):∃ a n c,v=.slice a n c:=by
 cases h<;>simp_all [SV.isRw]
theorem VR.oneCell {S:St} {s:SV} {v:Value} (h:VR S s v) (hc:s.isCell=true):v.oneCell'=true:=by
 cases h with
 | pn x v h hr hp=>obtain⟨a,n,c,rfl⟩:=h.isRw hr; rfl
 | _=>simp_all [SV.isCell,Value.oneCell']
def SpR:SV->Obj->List Value->Prop
 | .lp _ ok st,.loop r,us=>ok r∧LpSt r st∧us=r.tmps.toList
 | .mk ks,.map es _,us=>ks=es.toList.map (·.key)∧us=es.toList.map (·.val)
 | _,_,_=>False
theorem SpR.kind {m:SV} {x:Obj} {us:List Value} (h:SpR m x us):(∃ r,x=Obj.loop r)∨(∃ es cl,x=Obj.map es cl):=by
 unfold SpR at h
 split at h
 · exact .inl ⟨_,rfl⟩
 · exact .inr ⟨_,_,rfl⟩
 · exact h.elim
theorem SpR.isCell {m:SV} {x:Obj} {us:List Value} (h:SpR m x us) (n:Nat):m.under n=true:=by
 unfold SpR at h
 split at h
 · rfl
 · rfl
 · exact h.elim
def LpO (S:St) (o:AO) (b:Option Nat):Prop :=
 ∃ l x m us env,b=some l∧o.cells=m::env∧S.w.heap[l]? = some x∧SpR m x us∧VRs S env us
class GlobEnv where
 vars:Nat->Option (List Value)
variable [GlobEnv]
def St.GL (S:St):Prop:=∀ g us,GlobEnv.vars g=some us->S.Imm ⟨g,0,none⟩ us∧∃ T,S.w.shape? g=some (T,us.length)
theorem St.GL.extV {n:Nat} {S S':St} (h:S.GL) (he:ExtV n S S'):S'.GL:=fun g us hg=>⟨(h g us hg).1.ext he,(h g us hg).2.imp fun T=>he.shape g T _⟩
theorem St.GL.ext {n:Nat} {S S':St} (h:S.GL) (he:Ext n S S'):S'.GL:=h.extV he.v
class KnEnv where
 kn:List (SV×Value)
instance (priority:=low) knNone:KnEnv:=⟨[]⟩
class KnNo [KnEnv]:Prop where
 nokn:KnEnv.kn=[]
instance : @KnNo knNone:=⟨rfl⟩
variable [KnEnv]
def St.KF (S:St):Prop:=∀ p∈KnEnv.kn,p.1.under 0=true∧VR S p.1 p.2
theorem St.KF.extV {n:Nat} {S S':St} (h:S.KF) (he:ExtV n S S'):S'.KF:=fun p hp=>⟨(h p hp).1,(h p hp).2.extV he (.inr (SV.under_mono (Nat.zero_le _) _ (h p hp).1))⟩
theorem St.KF.ext {n:Nat} {S S':St} (h:S.KF) (he:Ext n S S'):S'.KF:=h.extV he.v
structure Sim (S:St):Prop where
 live:∀ (i:Nat) (o:AO),S.H[i]? = some o->o.live=true →
  match S.ρ i with
  | none=>o.cells=[]
  | some b=>∃ us rest,S.w.heap[b]? = some (.cells (us++rest).toArray o.ty (0,0))∧VRs S o.cells us
 bel:∀ (i:Nat) (o:AO),S.H[i]? = some o->∀ s∈o.cells,s.under S.H.length=true∧(o.live=true->s.isCell=true)
 inj:∀ (i j:Nat) (o o':AO) (b:Nat),S.H[i]? = some o->S.H[j]? = some o'->o.own=true->o'.own=true->S.ρ i=some b->S.ρ j=some b->i=j
 lp:∀ (i:Nat) (o:AO),S.H[i]? = some o->o.live=false->o.cells≠[]->LpO S o (S.ρ i)
 gl:S.GL
 kf:S.KF
theorem lt_heap {w:World} {k:Nat} {o:Obj} (h:w.heap[k]? = some o):k<w.heap.size:=by
 rcases Nat.lt_or_ge k w.heap.size with h1 | h1
 · exact h1
 · rw[Array.getElem?_eq_none h1]at h; cases h
theorem Sim.own {S:St} (h:Sim S) {i:Nat} {o:AO} {k:Nat} (ho:S.H[i]? = some o) (hl:o.own=true) (hρ:S.ρ i=some k) :
 (∃ c,S.w.heap[k]? = some (Obj.cells c o.ty (0,0)))∨(∃ r,S.w.heap[k]? = some (Obj.loop r))∨(∃ es cl,S.w.heap[k]? = some (Obj.map es cl)):=by
 cases hlv:o.live with
 | true =>
  have:=h.live i o ho hlv
  rw[hρ]at this
  obtain⟨us,rest,hh,_⟩:=this
  exact .inl ⟨_,hh⟩
 | false =>
  have hc:o.cells≠[]:=fun e=>by rw[AO.own_nil hl e]at hlv; cases hlv
  obtain⟨l,x,m,us,env,h1,h2,h3,h4,_⟩:=h.lp i o ho hlv hc
  rw[hρ]at h1; cases h1
  rcases h4.kind with ⟨r,rfl⟩ | ⟨es,cl,rfl⟩
  · exact .inr (.inl ⟨r,h3⟩)
  · exact .inr (.inr ⟨es,cl,h3⟩)
theorem Sim.belL {S:St} (h:Sim S) {i:Nat} {o:AO} (ho:S.H[i]? = some o) (hl:o.live=true) (s:SV) (hs:s∈o.cells):s.under S.H.length=true∧s.isCell=true:=⟨(h.bel i o ho s hs).1,(h.bel i o ho s hs).2 hl⟩
theorem Sim.lt {S:St} (h:Sim S) {k:Nat} (hk:S.rw k):k<S.w.heap.size:=by
 obtain⟨i,o,ho,hl,hρ⟩:=hk
 rcases h.own ho hl hρ with ⟨c,h1⟩ | ⟨r,h1⟩ | ⟨es,cl,h1⟩<;>exact lt_heap h1
end Go.Ab
namespace Go.Ab
variable [GlobEnv] [FrEnv] [KnEnv]
theorem getElem?_lt {α:Type} {l:List α} {i:Nat} {x:α} (h:l[i]? = some x):i<l.length:=by
 rcases Nat.lt_or_ge i l.length with h1 | h1
 · exact h1
 · rw[List.getElem?_eq_none h1]at h; cases h
theorem Sim.step {S S':St} (h:Sim S) (he:Ext S.H.length S S') (hlen:S.H.length≤S'.H.length)
   (hobj:∀ (i:Nat) (o:AO),S'.H[i]? = some o →
     (S.H[i]? = some o∧S'.ρ i=S.ρ i∧∀ b,S.ρ i=some b->o.own=true->S'.w.heap[b]? = S.w.heap[b]?) ∨
     ((o.live=true->match S'.ρ i with
       | none=>o.cells=[]
       | some b=>∃ us rest,S'.w.heap[b]? = some (.cells (us++rest).toArray o.ty (0,0))∧VRs S' o.cells us) ∧
      (∀ s∈o.cells,s.under S'.H.length=true∧(o.live=true->s.isCell=true))∧(o.live=false->o.cells≠[]->LpO S' o (S'.ρ i))))
   (hinj:∀ (i j:Nat) (o o':AO) (b:Nat),S'.H[i]? = some o->S'.H[j]? = some o'->o.own=true->o'.own=true->S'.ρ i=some b->S'.ρ j=some b->i=j):Sim S' where
 live:=by
   intro i o ho hl
   rcases hobj i o ho with ⟨h1,h2,h3⟩ | ⟨h1,_⟩
   · have h4:=h.live i o h1 hl
     rw[h2]
     cases hρ:S.ρ i with
     | none=>rw[hρ]at h4; exact h4
     | some b =>
       rw[hρ]at h4
       obtain⟨us,rest,h5,h6⟩:=h4
       exact⟨us,rest,(h3 b hρ (AO.own_live hl)).trans h5,h6.ext he⟩
   · exact h1 hl
 bel:=by
   intro i o ho s hs
   rcases hobj i o ho with ⟨h1,_,_⟩ | ⟨_,h1,_⟩
   · obtain⟨h2,h3⟩:=h.bel i o h1 s hs
     exact⟨SV.under_mono hlen s h2,h3⟩
   · exact h1 s hs
 inj:=hinj
 lp := by
   intro i o ho hl hc
   rcases hobj i o ho with ⟨h1,h2,h3⟩ | ⟨_,_,h1⟩
   · obtain⟨l,x,m,us,env,k1,k2,k3,k4,k6⟩:=h.lp i o h1 hl hc
     have hw:o.own=true:=by
       cases hcc:o.cells with
       | nil=>exact absurd hcc hc
       | cons x y=>simp[AO.own,hcc]
     exact⟨l,x,m,us,env,h2.trans k1,k2,(h3 l k1 hw).trans k3,k4,k6.ext he⟩
   · exact h1 hl hc
 gl:=h.gl.ext he
 kf:=h.kf.ext he
def upd (ρ:Nat->Option Nat) (i:Nat) (b:Option Nat):Nat->Option Nat:=fun j=>if j=i then b else ρ j
theorem upd_same (ρ:Nat->Option Nat) (i:Nat) (b:Option Nat):upd ρ i b i=b:=by simp[upd]
theorem upd_ne (ρ:Nat->Option Nat) {i j:Nat} (b:Option Nat) (h:j≠i):upd ρ i b j=ρ j:=by simp[upd,h]
theorem heap_alloc_lt (w:World) (o:Obj) {k:Nat} (h:k<w.heap.size):(w.alloc o).heap[k]? = w.heap[k]? := by
 show(w.heap.push o)[k]? = _
 rw[Array.getElem?_push,if_neg (by omega)]
theorem heap_alloc_at (w:World) (o:Obj):(w.alloc o).heap[w.heap.size]? = some o:=by
 show(w.heap.push o)[w.heap.size]? = _
 rw[Array.getElem?_push,if_pos rfl]
theorem loops_alloc (w:World) (o:Obj) {k:Nat} {r:Loop} (h:w.heap[k]? = some (Obj.loop r)):∃ r',(w.alloc o).heap[k]? = some (Obj.loop r') :=
 ⟨r,(heap_alloc_lt w o (lt_heap h)).trans h⟩
theorem shape_alloc (w:World) (o:Obj) {k:Nat} {T m:Nat} (h:w.shape? k=some (T,m)):(w.alloc o).shape? k=some (T,m):=by
 have hk:k<w.heap.size:=by
  rcases Nat.lt_or_ge k w.heap.size with h1 | h1
  · exact h1
  · unfold World.shape? at h; rw[Array.getElem?_eq_none h1]at h; cases h
 unfold World.shape? at *
 rw[heap_alloc_lt w o hk]; exact h
def St.new (S:St) (cells:List SV) (T:TypeId) (ver:Nat) (us rest:List Value):St :=
 ⟨upd S.ρ S.H.length (some S.w.heap.size),S.H++[⟨cells,T,ver,true⟩],S.w.alloc (.cells (us++rest).toArray T)⟩
theorem ext_new (S:St) (h:Sim S) (cells:List SV) (T:TypeId) (ver:Nat) (us rest:List Value):Ext S.H.length S (S.new cells T ver us rest) where
 obj:=by
  intro i o hi ho
  refine⟨o,?_,Nat.le_refl _,fun _ => ?_⟩
  · show(S.H++_)[i]? = _
    rw[List.getElem?_append_left hi]; exact ho
  · exact upd_ne _ _ (by omega)
 imm:=by
  intro k hk hn
  refine⟨heap_alloc_lt _ _ hk,?_⟩
  rintro⟨i,o,ho,hl,hρ⟩
  simp only[St.new]at ho hρ
  by_cases hi:i=S.H.length
  · subst hi; rw[upd_same]at hρ; simp at hρ; omega
  · rw[upd_ne _ _ hi]at hρ
    have hi':i<S.H.length:=by have:=getElem?_lt ho; simp at this; omega
    rw[List.getElem?_append_left hi']at ho
    exact hn ⟨i,o,ho,hl,hρ⟩
 size:=by simp[St.new]
 shape:=fun k T' m hs=>shape_alloc _ _ hs
 loops:=fun k r h=>loops_alloc _ _ h
 os:=rfl
 tape:=rfl
 output:=rfl
theorem sim_new {S:St} (h:Sim S) {cells:List SV} (T:TypeId) (ver:Nat) {us:List Value} (rest:List Value) (hv:VRs S cells us)
 (hb:∀ s∈cells,s.under S.H.length=true∧s.isCell=true):Sim (S.new cells T ver us rest):=by
 have he:=ext_new S h cells T ver us rest
 refine h.step he (by simp[St.new]) ?_ ?_
 · intro i o ho
   by_cases hi:i=S.H.length
   · subst hi
     have:o=⟨cells,T,ver,true⟩:=by simpa[St.new]using ho.symm
     subst this
     refine .inr ⟨fun _ => ?_,fun s hs => ?_,fun e=>by cases e⟩
     · simp only[St.new,upd_same]
       exact⟨us,rest,heap_alloc_at _ _,hv.ext he⟩
     · obtain⟨h1,h2⟩:=hb s hs
       exact⟨SV.under_mono (by simp[St.new]) s h1,fun _=>h2⟩
   · have hi':i<S.H.length:=by have:=getElem?_lt ho; simp[St.new]at this; omega
     refine .inl ⟨?_,upd_ne _ _ hi,fun b hb hl => ?_⟩
     · simp only[St.new]at ho; rw[List.getElem?_append_left hi']at ho; exact ho
     · have ho':S.H[i]? = some o:=by simp only[St.new]at ho; rw[List.getElem?_append_left hi']at ho; exact ho
       exact heap_alloc_lt _ _ (h.lt ⟨i,o,ho',hl,hb⟩)
 · intro i j o o' b hi hj hl hl' hρ hρ'
   have key:∀ (i:Nat) (o:AO),(S.new cells T ver us rest).H[i]? = some o->o.own=true->(S.new cells T ver us rest).ρ i=some b →
    (i=S.H.length∧b=S.w.heap.size)∨(S.H[i]? = some o∧S.ρ i=some b∧b<S.w.heap.size):=by
    intro i o ho hl hρ
    by_cases hi:i=S.H.length
    · subst hi; simp only[St.new,upd_same]at hρ; simp at hρ; exact .inl ⟨rfl,hρ.symm⟩
    · have hi':i<S.H.length:=by have:=getElem?_lt ho; simp[St.new]at this; omega
      simp only[St.new]at ho hρ
      rw[List.getElem?_append_left hi']at ho
      rw[upd_ne _ _ hi]at hρ
      exact .inr ⟨ho,hρ,h.lt ⟨i,o,ho,hl,hρ⟩⟩
   rcases key i o hi hl hρ with ⟨h1,h2⟩ | ⟨h1,h2,h3⟩<;>rcases key j o' hj hl' hρ' with ⟨h4,h5⟩ | ⟨h4,h5,h6⟩
   · omega
   · omega
   · omega
   · exact h.inj i j o o' b h1 h4 hl hl' h2 h5
def St.newNil (S:St) (T:TypeId):St:=⟨upd S.ρ S.H.length none,S.H++[⟨[],T,0,true⟩],S.w⟩
theorem ext_newNil (S:St) (T:TypeId):Ext S.H.length S (S.newNil T) where
 obj:=by
  intro i o hi ho
  refine⟨o,?_,Nat.le_refl _,fun _=>upd_ne _ _ (by omega)⟩
  show(S.H++_)[i]? = _
  rw[List.getElem?_append_left hi]; exact ho
 imm:=by
  intro k hk hn
  refine⟨rfl,?_⟩
  rintro⟨i,o,ho,hl,hρ⟩
  simp only[St.newNil]at ho hρ
  by_cases hi:i=S.H.length
  · subst hi; rw[upd_same]at hρ; cases hρ
  · rw[upd_ne _ _ hi]at hρ
    have hi':i<S.H.length:=by have:=getElem?_lt ho; simp at this; omega
    rw[List.getElem?_append_left hi']at ho
    exact hn ⟨i,o,ho,hl,hρ⟩
 size:=Nat.le_refl _
 shape:=fun _ _ _ h=>h
 loops:=fun _ r h=>⟨r,h⟩
 os:=rfl
 tape:=rfl
 output:=rfl
theorem sim_newNil {S:St} (h:Sim S) (T:TypeId):Sim (S.newNil T):=by
 refine h.step (ext_newNil S T) (by simp[St.newNil]) ?_ ?_
 · intro i o ho
   by_cases hi:i=S.H.length
   · subst hi
     have:o=⟨[],T,0,true⟩:=by simpa[St.newNil]using ho.symm
     subst this
     refine .inr ⟨fun _ => ?_,fun s hs=>by simp at hs,fun e=>by cases e⟩
     simp only[St.newNil,upd_same]
   · have hi':i<S.H.length:=by have:=getElem?_lt ho; simp[St.newNil]at this; omega
     refine .inl ⟨?_,upd_ne _ _ hi,fun b hb hl=>rfl⟩
     simp only[St.newNil]at ho; rw[List.getElem?_append_left hi']at ho; exact ho
 · intro i j o o' b hi hj hl hl' hρ hρ'
   have key:∀ (i:Nat) (o:AO),(S.newNil T).H[i]? = some o->(S.newNil T).ρ i=some b->S.H[i]? = some o∧S.ρ i=some b:=by
    intro i o ho hρ
    by_cases hi:i=S.H.length
    · subst hi; simp only[St.newNil,upd_same]at hρ; cases hρ
    · have hi':i<S.H.length:=by have:=getElem?_lt ho; simp[St.newNil]at this; omega
      simp only[St.newNil]at ho hρ
      rw[List.getElem?_append_left hi']at ho
      rw[upd_ne _ _ hi]at hρ
      exact⟨ho,hρ⟩
   obtain⟨h1,h2⟩:=key i o hi hρ
   obtain⟨h3,h4⟩:=key j o' hj hρ'
   exact h.inj i j o o' b h1 h3 hl hl' h2 h4
theorem ext_put {S:St} {i:Nat} {o o':AO} {b:Nat} {x:Obj} (ho:S.H[i]? = some o) (hv:o.ver≤o'.ver) (hl:o.live=true) (hρ:S.ρ i=some b)
 {w':World} (hw:w'={ S.w with heap:=S.w.heap.setIfInBounds b x }) {c c':Array Value} {T:TypeId} {f f':Nat×Nat} (hb:S.w.heap[b]? = some (Obj.cells c T f))
 (hx:x=.cells c' T f') (hs:c'.size=c.size):Ext S.H.length S ⟨S.ρ,S.H.set i o',w'⟩ where
 obj:=by
  intro j p hj hp
  by_cases hij:j=i
  · subst hij
    rw[ho]at hp; cases hp
    refine⟨o',?_,hv,fun _=>rfl⟩
    show(S.H.set j o')[j]? = _
    rw[List.getElem?_set_self hj]
  · refine⟨p,?_,Nat.le_refl _,fun _=>rfl⟩
    show(S.H.set i o')[j]? = _
    rw[List.getElem?_set_ne (by omega)]; exact hp
 imm:=by
  intro k hk hn
  have hkb:k≠b:=fun e=>hn ⟨i,o,ho,AO.own_live hl,e ▸ hρ⟩
  subst hw
  refine⟨by simp[Array.getElem?_setIfInBounds]; intro e; omega,?_⟩
  rintro⟨j,p,hp,hpl,hpρ⟩
  simp only at hp hpρ
  by_cases hij:j=i
  · subst hij; rw[hρ]at hpρ; cases hpρ; exact hkb rfl
  · rw[List.getElem?_set_ne (by omega)]at hp
    exact hn ⟨j,p,hp,hpl,hpρ⟩
 size:=by subst hw; simp
 shape:=by
  intro k T' m hs'
  subst hw
  unfold World.shape? at *
  simp only[Array.getElem?_setIfInBounds]
  by_cases hkb:b=k
  · subst hkb
    have hlt:b<S.w.heap.size:=by
     rcases Nat.lt_or_ge b S.w.heap.size with h1 | h1
     · exact h1
     · rw[Array.getElem?_eq_none h1]at hb; cases hb
    rw[hb]at hs'
    simp only[hlt,if_true,hx]
    simp only[hs]; exact hs'
  · simp only[hkb,if_false]; exact hs'
 loops:=by
  intro k r hk
  subst hw
  refine⟨r,?_⟩
  have hkb:b≠k:=fun e=>by subst e; rw[hb]at hk; cases hk
  simp only[Array.getElem?_setIfInBounds,hkb,if_false]; exact hk
 os:=by subst hw; rfl
 tape:=by subst hw; rfl
 output:=by subst hw; rfl
theorem sim_put {S:St} (h:Sim S) {i:Nat} {o:AO} {b:Nat} (ho:S.H[i]? = some o) (hl:o.live=true) (hρ:S.ρ i=some b)
 {cells:List SV} {ver:Nat} (hv:o.ver≤ver) {us rest:List Value} {c:Array Value} (hb:S.w.heap[b]? = some (Obj.cells c o.ty (0,0))) (hs:(us++rest).length=c.size)
 (hvr:VRs S cells us) (hu:∀ s∈cells,s.under S.H.length=true∧s.isCell=true)
 {w':World} (hw:w'={ S.w with heap:=S.w.heap.setIfInBounds b (.cells (us++rest).toArray o.ty (0,0)) }) :
 Sim ⟨S.ρ,S.H.set i ⟨cells,o.ty,ver,true⟩,w'⟩∧Ext S.H.length S ⟨S.ρ,S.H.set i ⟨cells,o.ty,ver,true⟩,w'⟩:=by
 have he:Ext S.H.length S ⟨S.ρ,S.H.set i ⟨cells,o.ty,ver,true⟩,w'⟩ :=
  ext_put (o':=⟨cells,o.ty,ver,true⟩) ho hv hl hρ hw hb rfl (by simpa using hs)
 have hblt:b<S.w.heap.size:=h.lt ⟨i,o,ho,AO.own_live hl,hρ⟩
 refine⟨h.step he (by simp) ?_ ?_,he⟩
 · intro j p hp
   by_cases hij:j=i
   · subst hij
     have:p=⟨cells,o.ty,ver,true⟩:=by
      simp only at hp; rw[List.getElem?_set_self (getElem?_lt ho)]at hp; cases hp; rfl
     subst this
     refine .inr ⟨fun _ => ?_,fun s hs => ?_,fun e=>by cases e⟩
     · simp only[hρ]
       refine⟨us,rest,?_,hvr.ext he⟩
       subst hw
       simp[hblt]
     · exact⟨by simpa using (hu s hs).1,fun _=>(hu s hs).2⟩
   · have hp':S.H[j]? = some p:=by simp only at hp; rw[List.getElem?_set_ne (by omega)]at hp; exact hp
     refine .inl ⟨hp',rfl,fun b' hb' hl' => ?_⟩
     have hne:b'≠b:=by
      intro e; subst e
      exact hij (h.inj j i p o b' hp' ho hl' (AO.own_live hl) hb' hρ)
     subst hw
     simp[Array.getElem?_setIfInBounds]; intro e; omega
 · intro j k p q b' hj hk hjl hkl hρj hρk
   have key:∀ (j:Nat) (p:AO),(S.H.set i ⟨cells,o.ty,ver,true⟩)[j]? = some p->p.own=true->S.ρ j=some b'->∃ p',S.H[j]? = some p'∧p'.own=true:=by
    intro j p hp hpl _
    by_cases hij:j=i
    · subst hij; exact⟨o,ho,AO.own_live hl⟩
    · rw[List.getElem?_set_ne (by omega)]at hp; exact⟨p,hp,hpl⟩
   obtain⟨p',h1,h2⟩:=key j p hj hjl hρj
   obtain⟨q',h3,h4⟩:=key k q hk hkl hρk
   exact h.inj j k p' q' b' h1 h3 h2 h4 hρj hρk
def St.move (S:St) (i:Nat) (o':AO) (us rest:List Value):St :=
 ⟨upd S.ρ i (some S.w.heap.size),S.H.set i o',S.w.alloc (.cells (us++rest).toArray o'.ty)⟩
theorem ext_move {S:St} {i:Nat} {o o':AO} {us rest:List Value} (ho:S.H[i]? = some o) (hv:o.ver<o'.ver):Ext S.H.length S (S.move i o' us rest) where
 obj:=by
  intro j p hj hp
  by_cases hij:j=i
  · subst hij
    rw[ho]at hp; cases hp
    refine⟨o',?_,Nat.le_of_lt hv,fun e=>by omega⟩
    show(S.H.set j o')[j]? = _
    rw[List.getElem?_set_self hj]
  · refine⟨p,?_,Nat.le_refl _,fun _=>upd_ne _ _ hij⟩
    show(S.H.set i o')[j]? = _
    rw[List.getElem?_set_ne (by omega)]; exact hp
 imm:=by
  intro k hk hn
  refine⟨heap_alloc_lt _ _ hk,?_⟩
  rintro⟨j,p,hp,hpl,hpρ⟩
  simp only[St.move]at hp hpρ
  by_cases hij:j=i
  · subst hij; rw[upd_same]at hpρ; simp at hpρ; omega
  · rw[List.getElem?_set_ne (by omega)]at hp
    rw[upd_ne _ _ hij]at hpρ
    exact hn ⟨j,p,hp,hpl,hpρ⟩
 size:=by simp[St.move]
 shape:=fun k T' m hs=>shape_alloc _ _ hs
 loops:=fun k r h=>loops_alloc _ _ h
 os:=rfl
 tape:=rfl
 output:=rfl
theorem sim_move {S:St} (h:Sim S) {i:Nat} {o o':AO} {us:List Value} (rest:List Value) (ho:S.H[i]? = some o) (hv:o.ver<o'.ver) (hlv:o'.live=true)
 (hvr:VRs S o'.cells us) (hu:∀ s∈o'.cells,s.under S.H.length=true∧s.isCell=true):Sim (S.move i o' us rest):=by
 have he:Ext S.H.length S (S.move i o' us rest):=ext_move ho hv
 refine h.step he (by simp[St.move]) ?_ ?_
 · intro j p hp
   by_cases hij:j=i
   · subst hij
     have:p=o':=by
      simp only[St.move]at hp; rw[List.getElem?_set_self (getElem?_lt ho)]at hp; cases hp; rfl
     subst this
     refine .inr ⟨fun _ => ?_,fun s hs => ?_,fun e=>by rw[hlv]at e; cases e⟩
     · simp only[St.move,upd_same]
       exact⟨us,rest,heap_alloc_at _ _,hvr.ext he⟩
     · exact⟨by simpa[St.move]using (hu s hs).1,fun _=>(hu s hs).2⟩
   · have hp':S.H[j]? = some p:=by simp only[St.move]at hp; rw[List.getElem?_set_ne (by omega)]at hp; exact hp
     refine .inl ⟨hp',upd_ne _ _ hij,fun b' hb' hl'=>heap_alloc_lt _ _ (h.lt ⟨j,p,hp',hl',hb'⟩)⟩
 · intro j k p q b' hj hk hjl hkl hρj hρk
   have key:∀ (j:Nat) (p:AO),(S.move i o' us rest).H[j]? = some p->p.own=true->(S.move i o' us rest).ρ j=some b' →
    (j=i∧b'=S.w.heap.size)∨(S.H[j]? = some p∧S.ρ j=some b'∧b'<S.w.heap.size):=by
    intro j p hp hpl hρj
    simp only[St.move]at hp hρj
    by_cases hij:j=i
    · subst hij; rw[upd_same]at hρj; simp at hρj; exact .inl ⟨rfl,hρj.symm⟩
    · rw[List.getElem?_set_ne (by omega)]at hp
      rw[upd_ne _ _ hij]at hρj
      exact .inr ⟨hp,hρj,h.lt ⟨j,p,hp,hpl,hρj⟩⟩
   rcases key j p hj hjl hρj with ⟨h1,h2⟩ | ⟨h1,h2,h3⟩<;>rcases key k q hk hkl hρk with ⟨h4,h5⟩ | ⟨h4,h5,h6⟩
   · omega
   · omega
   · omega
   · exact h.inj j k p q b' h1 h4 hjl hkl h2 h5
def AO.dead (o:AO):AO:=⟨[],o.ty,o.ver+1,false⟩
theorem ext_kill {S:St} {i:Nat} {o:AO} (ho:S.H[i]? = some o):Ext S.H.length S ⟨S.ρ,S.H.set i o.dead,S.w⟩ where
 obj:=by
  intro j p hj hp
  by_cases hij:j=i
  · subst hij
    rw[ho]at hp; cases hp
    refine⟨o.dead,?_,by simp[AO.dead],fun _=>rfl⟩
    show(S.H.set j o.dead)[j]? = _
    rw[List.getElem?_set_self hj]
  · refine⟨p,?_,Nat.le_refl _,fun _=>rfl⟩
    show(S.H.set i o.dead)[j]? = _
    rw[List.getElem?_set_ne (by omega)]; exact hp
 imm:=by
  intro k hk hn
  refine⟨rfl,?_⟩
  rintro⟨j,p,hp,hpl,hpρ⟩
  simp only at hp hpρ
  by_cases hij:j=i
  · subst hij; rw[List.getElem?_set_self (getElem?_lt ho)]at hp; cases hp; simp[AO.dead,AO.own]at hpl
  · rw[List.getElem?_set_ne (by omega)]at hp
    exact hn ⟨j,p,hp,hpl,hpρ⟩
 size:=Nat.le_refl _
 shape:=fun _ _ _ h=>h
 loops:=fun _ r h=>⟨r,h⟩
 os:=rfl
 tape:=rfl
 output:=rfl
theorem sim_kill {S:St} (h:Sim S) {i:Nat} {o:AO} (ho:S.H[i]? = some o):Sim ⟨S.ρ,S.H.set i o.dead,S.w⟩:=by
 refine h.step (ext_kill ho) (by simp) ?_ ?_
 · intro j p hp
   by_cases hij:j=i
   · subst hij
     have:p=o.dead:=by simp only at hp; rw[List.getElem?_set_self (getElem?_lt ho)]at hp; cases hp; rfl
     subst this
     exact .inr ⟨fun hl=>by simp[AO.dead]at hl,fun s hs=>by simp[AO.dead]at hs,fun _ hc=>absurd rfl hc⟩
   · have hp':S.H[j]? = some p:=by simp only at hp; rw[List.getElem?_set_ne (by omega)]at hp; exact hp
     exact .inl ⟨hp',rfl,fun _ _ _=>rfl⟩
 · intro j k p q b' hj hk hjl hkl hρj hρk
   have key:∀ (j:Nat) (p:AO),(S.H.set i o.dead)[j]? = some p->p.own=true->S.H[j]? = some p:=by
    intro j p hp hpl
    by_cases hij:j=i
    · subst hij; rw[List.getElem?_set_self (getElem?_lt ho)]at hp; cases hp; simp[AO.dead,AO.own]at hpl
    · rw[List.getElem?_set_ne (by omega)]at hp; exact hp
   exact h.inj j k p q b' (key j p hj hjl) (key k q hk hkl) hjl hkl hρj hρk
theorem ext_same {S:St} {w':World} (hh:w'.heap=S.w.heap) (ho:w'.os=S.w.os) (ht:w'.tape=S.w.tape) (hp:w'.output=S.w.output):Ext S.H.length S ⟨S.ρ,S.H,w'⟩ where
 obj:=fun i o _ h=>⟨o,h,Nat.le_refl _,fun _=>rfl⟩
 imm:=fun k _ hn=>⟨by rw[hh],hn⟩
 size:=by rw[hh]; exact Nat.le_refl _
 shape:=fun k T m h=>by unfold World.shape? at *; rw[hh]; exact h
 loops:=fun k r h=>⟨r,by rw[hh]; exact h⟩
 os:=ho
 tape:=ht
 output:=hp
theorem sim_same {S:St} (h:Sim S) {w':World} (hh:w'.heap=S.w.heap) (ho:w'.os=S.w.os) (ht:w'.tape=S.w.tape) (hp:w'.output=S.w.output):Sim ⟨S.ρ,S.H,w'⟩ :=
 h.step (ext_same hh ho ht hp) (Nat.le_refl _) (fun i o hi=>.inl ⟨hi,rfl,fun b _ _=>by rw[hh]⟩) fun i j o o' b hi hj hl hl' h1 h2=>h.inj i j o o' b hi hj hl hl' h1 h2
theorem ext_drop {S:St} {n:Nat} (hn:n≤S.H.length):Ext n S ⟨S.ρ,S.H.take n,S.w⟩ where
 obj:=fun i o hi h=>⟨o,by show(S.H.take n)[i]? = _; rw[List.getElem?_take_of_lt hi]; exact h,Nat.le_refl _,fun _=>rfl⟩
 imm:=by
  intro k hk hnr
  refine⟨rfl,?_⟩
  rintro⟨j,p,hp,hpl,hpρ⟩
  simp only[List.getElem?_take]at hp
  by_cases hj:j<n
  · rw[if_pos hj]at hp; exact hnr ⟨j,p,hp,hpl,hpρ⟩
  · rw[if_neg hj]at hp; cases hp
 size:=Nat.le_refl _
 shape:=fun _ _ _ h=>h
 loops:=fun _ r h=>⟨r,h⟩
 os:=rfl
 tape:=rfl
 output:=rfl
theorem sim_drop {S:St} (h:Sim S) {n:Nat} (hn:n≤S.H.length) (hc:∀ (i:Nat) (o:AO),i<n->S.H[i]? = some o->∀ s∈o.cells,s.under n=true) :
 Sim ⟨S.ρ,S.H.take n,S.w⟩:=by
 have key:∀ (j:Nat) (p:AO),(S.H.take n)[j]? = some p->j<n∧S.H[j]? = some p:=by
  intro j p hp
  rw[List.getElem?_take]at hp
  by_cases hj:j<n
  · rw[if_pos hj]at hp; exact⟨hj,hp⟩
  · rw[if_neg hj]at hp; cases hp
 constructor
 · intro i o ho hl
   obtain⟨h1,h2⟩:=key i o ho
   have h3:=h.live i o h2 hl
   simp only
   cases hρ:S.ρ i with
   | none=>rw[hρ]at h3; exact h3
   | some b =>
    rw[hρ]at h3
    obtain⟨us,rest,h4,h5⟩:=h3
    exact⟨us,rest,h4,h5.extB (ext_drop hn) ((SV.underL_iff n _).2 (hc i o h1 h2))⟩
 · intro i o ho s hs
   obtain⟨h1,h2⟩:=key i o ho
   have:(S.H.take n).length=n:=by simp; omega
   simp only[this]
   exact⟨hc i o h1 h2 s hs,(h.bel i o h2 s hs).2⟩
 · intro i j o o' b hi hj hl hl' hρ hρ'
   exact h.inj i j o o' b (key i o hi).2 (key j o' hj).2 hl hl' hρ hρ'
 · intro i o ho hl hne
   obtain⟨h1,h2⟩:=key i o ho
   obtain⟨l,x,m,us,env,k1,k2,k3,k4,k6⟩:=h.lp i o h2 hl hne
   have hu:=hc i o h1 h2
   rw[k2]at hu
   exact⟨l,x,m,us,env,k1,k2,k3,k4,k6.extB (ext_drop hn) ((SV.underL_iff n _).2 fun s hs=>hu s (by simp[hs]))⟩
 · exact h.gl.ext (ext_drop hn)
 · exact h.kf.ext (ext_drop hn)
end Go.Ab
namespace Go.Ab
variable [GlobEnv] [FrEnv] [KnEnv]
inductive Od where
 | t (n:Nat)
 | c (s:SV)
abbrev Env:=List (Nat×SV)
def Env.get:Env->Nat->SV
 | [],_=>.any
 | (k,v)::r,t=>if k=t then v else Env.get r t
def Env.ev (e:Env):Od->SV
 | .t n=>e.get n
 | .c s=>s
def Env.put (e:Env) (d:Option Nat) (v:SV):Env :=
 match d with
 | some d=>(d,v)::e
 | none=>e
structure EnvR (S:St) (e:Env) (tmps:Array Value):Prop where
 get:∀ t,VR S (e.get t) (tmps.getD t undef)
theorem EnvR.ext {S S':St} {e:Env} {tmps:Array Value} (h:EnvR S e tmps) (he:Ext S.H.length S S'):EnvR S' e tmps:=⟨fun t=>(h.get t).ext he⟩
theorem EnvR.put {S:St} {e:Env} {a:Act} {d:Option Nat} {s:SV} {v:Value} (h:EnvR S e a.tmps) (hd:∀ t,d=some t->t<a.tmps.size) (hs:VR S s v) :
 EnvR S (e.put d s) (a.put d v).tmps:=by
 cases d with
 | none=>exact h
 | some d =>
  refine⟨fun t => ?_⟩
  have hd':=hd d rfl
  simp only[Env.put,Env.get,Act.put]
  by_cases ht:d=t
  · subst ht
    simp[Array.getD,hd',hs]
  · simp only[if_neg ht]
    have:=h.get t
    simp only[Array.getD_eq_getD_getElem?]at *
    rw[Array.getElem?_setIfInBounds_ne ht]; exact this
def constB:SV->Value->Bool
 | .val (.int k n),.int k' n'=>decide (k=k')&&decide (n=n')
 | .val (.bool b),.bool b'=>b==b'
 | .val (.string s),.string s'=>s.data.toList==s'.data.toList
 | .val (.pointer none),.pointer none=>true
 | .val (.slice none 0 0),.slice none 0 0=>true
 | .slc [] 0,.slice none 0 0=>true
 | .val .nilFunc,.nilFunc=>true
 | .val .nilIface,.nilIface=>true
 | .val (.map none),.map none=>true
 | .any,_=>true
 | _,_=>false
theorem constB_spec {S:St} {s:SV} {v:Value} (h:constB s v=true):VR S s v:=by
 unfold constB at h
 split at h
 · simp at h; obtain⟨rfl,rfl⟩:=h; exact .val _
 · simp at h; subst h; exact .val _
 · rename_i x y
   have:x=y:=by
    obtain⟨⟨x⟩⟩:=x; obtain⟨⟨y⟩⟩:=y; simp at h; subst h; rfl
   subst this; exact .val _
 · exact .val _
 · exact .val _
 · exact .nilslc
 · exact .val _
 · exact .val _
 · exact .val _
 · exact .any _
 · cases h
def constA:SV->Value->Bool
 | .agg l,.agg us=>decide (us.toList.length=l.length)&&(l.zip us.toList).all fun p=>constB p.1 p.2
 | _,_=>false
theorem constA_spec {S:St} {s:SV} {v:Value} (h:constA s v=true):VR S s v:=by
 unfold constA at h
 split at h
 · rename_i l us
   rw[Bool.and_eq_true,decide_eq_true_eq,List.all_eq_true]at h
   obtain⟨h1,h2⟩:=h
   have:=VR.agg (S:=S) l us.toList h1 fun j s u hs hu=>constB_spec (h2 (s,u) (List.mem_of_getElem? (i:=j) (by rw[List.getElem?_zip_eq_some]; exact⟨hs,hu⟩)))
   simpa using this
 · cases h
def chkOd:Operand->Od->Bool
 | .tmp t,.t n=>t==n
 | .const v,.c s=>constB s v||constA s v
 | .func f,.c (.fn (.func g) [] [])=>f==g
 | _,_=>false
theorem chkOd_spec {S:St} {e:Env} {a:Act} {x:Operand} {y:Od} (h:chkOd x y=true) (he:EnvR S e a.tmps):VR S (e.ev y) (a.eval x):=by
 unfold chkOd at h
 split at h
 · simp at h; subst h; exact he.get _
 · rw[Bool.or_eq_true]at h
   rcases h with h | h
   · exact constB_spec h
   · exact constA_spec h
 · simp at h; subst h
   exact .fn _ [] [] [] [] rfl (fun j s u h=>by simp at h) rfl (fun j s u h=>by simp at h)
 · cases h
def SV.isI (k:IntKind):SV->Bool
 | .val (.int k' _)=>decide (k'=k)
 | .gd b x=>b&&x.isI k
 | _=>false
def SV.int:SV->Int
 | .val (.int _ n)=>n
 | .gd _ x=>x.int
 | _=>0
def SV.isN:SV->Bool
 | .val (.int _ _)=>true
 | .gd b x=>b&&x.isN
 | _=>false
def SV.isB:SV->Bool
 | .val (.bool _)=>true
 | .gd b x=>b&&x.isB
 | _=>false
def SV.bool:SV->Bool
 | .val (.bool b)=>b
 | .gd _ x=>x.bool
 | _=>false
def SV.isS:SV->Bool
 | .val (.string _)=>true
 | .gd b x=>b&&x.isS
 | _=>false
def SV.str:SV->ByteArray
 | .val (.string s)=>s
 | .gd _ x=>x.str
 | _=>ByteArray.empty
def SV.ug:SV->SV
 | .gd _ x=>x.ug
 | .pn x=>x.ug
 | x=>x
def SV.vd:SV->Bool
 | .gd b x=>b&&x.vd
 | .pn x=>x.vd
 | _=>true
theorem VR.isI {S:St} {k:IntKind}:∀ {s:SV} {v:Value},VR S s v->s.isI k=true->v=.int k s.int:=by
 intro s v h
 induction h with
 | val v=>intro h; cases v<;>simp_all [SV.isI,SV.int]
 | gd b x v h0 h ih=>intro hb; simp only[SV.isI,SV.int,Bool.and_eq_true]at *; exact ih hb.1 hb.2
 | _=>simp[SV.isI]
theorem VR.isN {S:St}:∀ {s:SV} {v:Value},VR S s v->s.isN=true->∃ k,v=.int k s.int:=by
 intro s v h
 induction h with
 | val v=>intro h; cases v<;>simp_all [SV.isN,SV.int]
 | gd b x v h0 h ih=>intro hb; simp only[SV.isN,SV.int,Bool.and_eq_true]at *; exact ih hb.1 hb.2
 | _=>simp[SV.isN]
theorem VR.isB {S:St}:∀ {s:SV} {v:Value},VR S s v->s.isB=true->v=.bool s.bool:=by
 intro s v h
 induction h with
 | val v=>intro h; cases v<;>simp_all [SV.isB,SV.bool]
 | gd b x v h0 h ih=>intro hb; simp only[SV.isB,SV.bool,Bool.and_eq_true]at *; exact ih hb.1 hb.2
 | _=>simp[SV.isB]
theorem VR.isS {S:St}:∀ {s:SV} {v:Value},VR S s v->s.isS=true->v=.string s.str:=by
 intro s v h
 induction h with
 | val v=>intro h; cases v<;>simp_all [SV.isS,SV.str]
 | gd b x v h0 h ih=>intro hb; simp only[SV.isS,SV.str,Bool.and_eq_true]at *; exact ih hb.1 hb.2
 | _=>simp[SV.isS]
theorem VR.ug {S:St}:∀ {s:SV} {v:Value},VR S s v->s.vd=true->VR S s.ug v:=by
 intro s v h
 induction h with
 | gd b x v h0 h ih =>
  intro hv
  simp only[SV.vd,Bool.and_eq_true]at hv
  simp only[SV.ug]
  exact ih hv.1 hv.2
 | any v=>intro _; exact .any v
 | val v=>intro _; exact .val v
 | nilslc=>intro _; exact .nilslc
 | slc cells len a cap us hc hl hi h ih=>intro _; exact .slc cells len a cap us hc hl hi h
 | own i off len sz ver a cap o ho hv hc hz h=>intro _; exact .own i off len sz ver a cap o ho hv hc hz h
 | ptrI cells len k a us hl hi h ih=>intro _; exact .ptrI cells len k a us hl hi h
 | ptrO i off len sz ver k a o ho hv h=>intro _; exact .ptrO i off len sz ver k a o ho hv h
 | agg l us hl h ih=>intro _; exact .agg l us hl h
 | tup l us hl h ih=>intro _; exact .tup l us hl h
 | fn f x y us vs hl h hl' h' ih ih'=>intro _; exact .fn f x y us vs hl h hl' h'
 | ifc t x v h ih=>intro _; exact .ifc t x v h
 | yl i l o ho h=>intro _; exact .yl i l o ho h
 | mp i ver l o ho hv h=>intro _; exact .mp i ver l o ho hv h
 | mpf vs l es cl us hb hn hu hl h ih=>intro _; exact .mpf vs l es cl us hb hn hu hl h
 | pn x v h hr hp ih=>intro hv; simp only[SV.vd]at hv; simp only[SV.ug]; exact ih hv
def objCells (H:List AO) (i ver:Nat):List SV :=
 match H[i]? with
 | some o=>if o.live&&o.ver==ver then o.cells else []
 | none=>[]
def SV.row (H:List AO):SV->List SV
 | .slc cs _=>cs
 | .own i off _ _ ver=>(objCells H i ver).drop off
 | _=>[]
def SV.slen:SV->Nat
 | .slc _ n=>n
 | .own _ _ n _ _=>n
 | _=>0
def SV.isSl:SV->Bool
 | .slc _ _=>true
 | .own _ _ _ _ _=>true
 | .val (.slice none 0 0)=>true
 | _=>false
def SV.at (H:List AO):SV->List SV
 | .ptr s k=>(s.row H).drop k
 | _=>[]
theorem add_block (a:Addr) (n:Nat):(a.add n).block=a.block:=by unfold Addr.add; split<;>rfl
theorem add_add (a:Addr) (i j:Nat):(a.add i).add j=a.add (i+j):=by
 unfold Addr.add
 by_cases hi:i=0<;>by_cases hj:j=0<;>simp[hi,hj,Nat.add_assoc]
theorem objCells_get {H:List AO} {i ver j:Nat} {c:SV} (h:(objCells H i ver)[j]? = some c):∃ o,H[i]? = some o∧o.live=true∧o.ver=ver∧o.cells[j]? = some c:=by
 unfold objCells at h
 split at h
 · rename_i o ho
   split at h
   · rename_i hc
     simp at hc
     exact⟨o,ho,hc.1,hc.2,h⟩
   · simp at h
 · simp at h
theorem Sim.read {S:St} (h:Sim S) {i ver j:Nat} {c:SV} (hj:(objCells S.H i ver)[j]? = some c) :
 ∃ o b us rest u,S.H[i]? = some o∧o.live=true∧o.ver=ver∧S.ρ i=some b∧S.w.heap[b]? = some (.cells (us++rest).toArray o.ty (0,0))∧VRs S o.cells us ∧
  S.w.cell? ⟨b,j,none⟩=some u∧VR S c u∧c.isCell=true∧o.cells[j]? = some c∧us[j]? = some u:=by
 obtain⟨o,ho,hl,hv,hc⟩:=objCells_get hj
 have h1:=h.live i o ho hl
 cases hρ:S.ρ i with
 | none=>rw[hρ]at h1; simp only at h1; rw[h1]at hc; simp at hc
 | some b =>
  rw[hρ]at h1
  obtain⟨us,rest,h2,h3⟩:=h1
  obtain⟨u,hu,hvr⟩:=h3.get hc
  refine⟨o,b,us,rest,u,ho,hl,hv,rfl,h2,h3,?_,hvr,(h.belL ho hl c (List.mem_of_getElem? hc)).2,hc,hu⟩
  unfold World.cell?
  simp only[h2,Option.isSome_none,Bool.false_eq_true,if_false]
  have:j<us.length:=getElem?_lt hu
  simp[List.getElem?_append_left this,hu]
theorem VR.at {S:St} (hS:Sim S) {p:SV} {v:Value} (h:VR S p v) {j:Nat} {c:SV} (hc:(p.at S.H)[j]? = some c) :
 ∃ a u,v=.pointer (some a)∧S.w.cell? (a.add j)=some u∧VR S c u:=by
 cases h with
 | ptrI cells len k a us hl hi h =>
  simp only[SV.at,SV.row,List.getElem?_drop]at hc
  have hlt:k+j<us.length:=by rw[hl]; exact getElem?_lt hc
  refine⟨_,us[k+j],rfl,?_,h _ _ _ hc (List.getElem?_eq_getElem hlt)⟩
  rw[add_add]
  exact hi.1 _ _ (List.getElem?_eq_getElem hlt)
 | ptrO i off len sz ver k a o ho hv h =>
  simp only[SV.at,SV.row,List.getElem?_drop]at hc
  obtain⟨o',b,us,rest,u,ho',hl,hv',hρ,_,_,hcell,hvr,_,_,_⟩:=hS.read hc
  rw[ho]at ho'; cases ho'
  obtain⟨b',hb',ha⟩:=h hv'
  rw[hρ]at hb'; cases hb'
  subst ha
  refine⟨_,u,rfl,?_,hvr⟩
  have:(⟨b,off+k,none⟩:Addr).add j=⟨b,off+(k+j),none⟩:=by
   unfold Addr.add; split
   · subst_vars; rfl
   · simp[Nat.add_assoc]
  rw[this]; exact hcell
 | _=>simp[SV.at]at hc
end Go.Ab
namespace Go.Ab
open Go.MapKept
variable [GlobEnv] [FrEnv] [KnEnv]
def vkeq:Value->Value->Bool
 | .string a,.string b=>decide (a.data.toList=b.data.toList)
 | .int _ a,.int _ b=>decide (a=b)
 | .bool a,.bool b=>a==b
 | .pointer (some a),.pointer (some b)=>decide (a=b)
 | .agg ⟨[.pointer (some a),.pointer (some b)]⟩,.agg ⟨[.pointer (some c),.pointer (some d)]⟩=>decide (a=c)&&decide (b=d)
 | _,_=>false
theorem vkeq_iff {d:TypeDesc} {a b:Value} (ha:IsKey d a) (hb:IsKey d b):vkeq a b=true↔a=b:=by
 cases d<;>cases a<;>cases b<;>simp_all [IsKey,vkeq]
 rename_i s t
 constructor
 · intro h
   obtain⟨⟨s⟩⟩:=s; obtain⟨⟨t⟩⟩:=t
   simp at h; rw[h]
 · intro h; rw[h]
inductive KK where
 | s
 | i (k:IntKind)
 | b
 | p (e:TypeId)
 | pp (t e:TypeId)
def KK.is:KK->Value->Bool
 | .s,.string _=>true
 | .i k,.int k' _=>decide (k'=k)
 | .b,.bool _=>true
 | .p _,.pointer (some _)=>true
 | .pp _ _,.agg ⟨[.pointer (some _),.pointer (some _)]⟩=>true
 | _,_=>false
def KK.desc:KK->TypeDesc
 | .s=>.string
 | .i k=>.int k
 | .b=>.bool
 | .p e=>.pointer e
 | .pp t _=>.array 2 t
def KK.ptr:KK->Bool
 | .p _=>true
 | .pp _ _=>true
 | _=>false
theorem KK.isKey {kk:KK} {v:Value} (hp:kk.ptr=false) (h:kk.is v=true):IsKey kk.desc v:=by
 cases kk<;>cases v<;>simp_all [KK.is,KK.desc,IsKey,KK.ptr]
def SV.isP:SV->Bool
 | .val (.pointer (some _))=>true
 | .gd b x=>b&&x.isP
 | _=>false
def SV.pval:SV->Value
 | .val v=>v
 | .gd _ x=>x.pval
 | _=>undef
theorem VR.isP {S:St}:∀ {s:SV} {v:Value},VR S s v->s.isP=true->v=s.pval∧∃ a,v=.pointer (some a):=by
 intro s v h
 induction h with
 | val v =>
  intro h
  refine⟨rfl,?_⟩
  cases v with
  | pointer a =>
   cases a with
   | some a=>exact⟨a,rfl⟩
   | none=>cases h
  | _=>cases h
 | gd b x v h0 h ih=>intro hb; simp only[SV.isP,SV.pval,Bool.and_eq_true]at *; exact ih hb.1 hb.2
 | _=>exact fun h=>by cases h
def SV.isPP:SV->Bool
 | .agg [a,b]=>a.isP&&b.isP
 | .gd b x=>b&&x.isPP
 | _=>false
def SV.ppval:SV->Value
 | .agg [a,b]=>.agg #[a.pval,b.pval]
 | .gd _ x=>x.ppval
 | _=>undef
theorem VR.isPP {S:St}:∀ {s:SV} {v:Value},VR S s v->s.isPP=true->v=s.ppval∧∃ a b,v=.agg #[.pointer (some a),.pointer (some b)]:=by
 intro s v h
 induction h with
 | agg l us hl hh ih =>
  intro hp
  match l,hp with
  | [x,y],hp =>
   simp only[SV.isPP,Bool.and_eq_true]at hp
   match us,hl with
   | [u,w],_ =>
    obtain⟨e1,a,h1⟩:=(hh 0 x u rfl rfl).isP hp.1
    obtain⟨e2,b,h2⟩:=(hh 1 y w rfl rfl).isP hp.2
    refine⟨?_,a,b,by rw[h1,h2]⟩
    simp only[SV.ppval]
    rw[←e1,<- e2]
 | gd b x v h0 h ih=>intro hb; simp only[SV.isPP,SV.ppval,Bool.and_eq_true]at *; exact ih hb.1 hb.2
 | _=>exact fun h=>by cases h
def SV.isK (kk:KK) (x:SV):Bool :=
 match kk with
 | .s=>x.isS
 | .i k=>x.isI k
 | .b=>x.isB
 | .p _=>x.isP
 | .pp _ _=>x.isPP
def SV.key (kk:KK) (x:SV):Value :=
 match kk with
 | .s=>.string x.str
 | .i k=>.int k x.int
 | .b=>.bool x.bool
 | .p _=>x.pval
 | .pp _ _=>x.ppval
theorem VR.isK {S:St} {kk:KK} {x:SV} {v:Value} (h:VR S x v) (hk:x.isK kk=true):v=x.key kk∧kk.is v=true:=by
 cases kk with
 | s=>have:=h.isS hk; subst this; exact⟨rfl,rfl⟩
 | i k=>have:=h.isI hk; subst this; exact⟨rfl,by simp[KK.is]⟩
 | b=>have:=h.isB hk; subst this; exact⟨rfl,rfl⟩
 | p e=>obtain⟨h1,a,h2⟩:=h.isP hk; exact⟨h1,by rw[h2]; rfl⟩
 | pp t e=>obtain⟨h1,a,b,h2⟩:=h.isPP hk; exact⟨h1,by rw[h2]; rfl⟩
def lkm (k:Value):List Value->List SV->Option SV
 | x::ks,v::vs=>if vkeq k x=true then some v else lkm k ks vs
 | _,_=>none
def msetK (k:Value):List Value->List Value
 | []=>[k]
 | x::ks=>if vkeq k x=true then x::ks else x::msetK k ks
def msetV (k:Value) (v:SV):List Value->List SV->List SV
 | x::ks,y::vs=>if vkeq k x=true then v::vs else y::msetV k v ks vs
 | _,_=>[v]
def SV.mapOf (H:List AO):SV->Option (List Value×List SV)
 | .mp i ver =>
  match H[i]? with
  | some o=>if o.live=false∧o.ver=ver then(match o.cells with | .mk ks::vs=>some (ks,vs) | _=>none)else none
  | none=>none
 | .mpf ks vs=>some (ks,vs)
 | .val (.map none)=>some ([],[])
 | _=>none
section
variable {S:St}
theorem lkm_find {kk:KK} (hp:kk.ptr=false) {k:Value} (hk:kk.is k=true):∀ (es:List MapEntry) (vs:List SV) (i:Nat),(es.map (·.key)).all kk.is=true->VRs S vs (es.map (·.val)) →
 ∃ r,Instr.findNow kk.desc k es i=some r∧match lkm k (es.map (·.key)) vs with
  | none=>r=none
  | some s=>∃ j u,r=some (j,u)∧VR S s u
 | [],vs,i,_,hv=>by
  have:vs=[]:=by have:=hv.1; simpa using this.symm
  subst this
  exact⟨none,rfl,rfl⟩
 | e::es,vs,i,ha,hv=>by
  simp only[List.map_cons,List.all_cons,Bool.and_eq_true]at ha
  obtain⟨v,vs,rfl⟩:∃ v r,vs=v::r:=by
   cases vs with
   | nil=>have:=hv.1; simp at this
   | cons v r=>exact⟨v,r,rfl⟩
  have hv0:VR S v e.val:=hv.2 0 v e.val rfl rfl
  have hvr:VRs S vs (es.map (·.val)):=⟨by have:=hv.1; simpa using this,fun j s u h1 h2=>hv.2 (j+1) s u h1 h2⟩
  obtain⟨q,hq,hiff⟩:=sameNow_of_keys (KK.isKey hp hk) (KK.isKey hp ha.1)
  have hke:=vkeq_iff (KK.isKey hp hk) (KK.isKey hp ha.1)
  simp only[List.map_cons,lkm]
  cases q with
  | true =>
   have he:vkeq k e.key=true:=hke.2 (hiff.1 rfl)
   rw[if_pos he]
   exact⟨some (i,e.val),by simp[Instr.findNow,hq],i,e.val,rfl,hv0⟩
  | false =>
   have he:¬ vkeq k e.key=true:=fun h=>by have:=hiff.2 (hke.1 h); cases this
   rw[if_neg he]
   obtain⟨r,h1,h2⟩:=lkm_find hp hk es vs (i+1) ha.2 hvr
   exact⟨r,by simp[Instr.findNow,hq,h1],h2⟩
theorem mset_find {kk:KK} (hp:kk.ptr=false) {k:Value} (hk:kk.is k=true) {s:SV} {u:Value} (hs:VR S s u):∀ (es:List MapEntry) (vs:List SV) (i:Nat),(es.map (·.key)).all kk.is=true->VRs S vs (es.map (·.val)) →
 (Instr.findNow kk.desc k es i=some none∧msetK k (es.map (·.key))=es.map (·.key)++[k]∧VRs S (msetV k s (es.map (·.key)) vs) (es.map (·.val)++[u])) ∨
 (∃ j e,Instr.findNow kk.desc k es i=some (some (i+j,e.val))∧es[j]? = some e∧e.key=k∧msetK k (es.map (·.key))=es.map (·.key)∧VRs S (msetV k s (es.map (·.key)) vs) ((es.map (·.val)).set j u))
 | [],vs,i,_,hv=>.inl ⟨rfl,rfl,by
  have:vs=[]:=by have:=hv.1; simpa using this.symm
  subst this
  exact VRs.cons hs (VRs.nil S)⟩
 | e::es,vs,i,ha,hv=>by
  simp only[List.map_cons,List.all_cons,Bool.and_eq_true]at ha
  obtain⟨v,vs,rfl⟩:∃ v r,vs=v::r:=by
   cases vs with
   | nil=>have:=hv.1; simp at this
   | cons v r=>exact⟨v,r,rfl⟩
  have hv0:VR S v e.val:=hv.2 0 v e.val rfl rfl
  have hvr:VRs S vs (es.map (·.val)):=⟨by have:=hv.1; simpa using this,fun j s u h1 h2=>hv.2 (j+1) s u h1 h2⟩
  obtain⟨q,hq,hiff⟩:=sameNow_of_keys (KK.isKey hp hk) (KK.isKey hp ha.1)
  have hke:=vkeq_iff (KK.isKey hp hk) (KK.isKey hp ha.1)
  simp only[List.map_cons,msetK,msetV]
  cases q with
  | true =>
   have he:vkeq k e.key=true:=hke.2 (hiff.1 rfl)
   rw[if_pos he,if_pos he]
   exact .inr ⟨0,e,by simp[Instr.findNow,hq],rfl,(hiff.1 rfl).symm,rfl,by simpa using VRs.cons hs hvr⟩
  | false =>
   have he:¬ vkeq k e.key=true:=fun h=>by have:=hiff.2 (hke.1 h); cases this
   rw[if_neg he,if_neg he]
   rcases mset_find hp hk hs es vs (i+1) ha.2 hvr with ⟨h1,h2,h3⟩ | ⟨j,e',h1,h2,h3,h4,h5⟩
   · exact .inl ⟨by simp[Instr.findNow,hq,h1],by rw[h2]; rfl,by simpa using VRs.cons hv0 h3⟩
   · exact .inr ⟨j+1,e',by simp[Instr.findNow,hq,h1]; omega,by simpa using h2,h3,by rw[h4],by simpa using VRs.cons hv0 h5⟩
end
variable {P:Program}
def knowB (v:Value):Prop:=(FrEnv.fresh=true∧∃ (a:Addr) (cells:List SV) (len cap:Nat),v=.pointer (some a)∧(SV.slc cells len,Value.slice (some a) len cap)∈KnEnv.kn∧∃ s,SV.val (.string s)∈cells) ∨
 ∃ (a:Addr) (cells:List SV) (len cap:Nat),v=.pointer (some a)∧(SV.pn (.slc cells len),Value.slice (some a) len cap)∈KnEnv.kn∧len≠0
def KK.knows:KK->Value->Prop
 | .p _,v=>knowB v
 | .pp _ _,v=>∃ x y,v=.agg #[x,y]∧knowB x∧knowB y
 | _,_=>True
@[simp] theorem knows_s (v:Value):KK.s.knows v=True:=rfl
@[simp] theorem knows_i (k:IntKind) (v:Value):(KK.i k).knows v=True:=rfl
@[simp] theorem knows_b (v:Value):KK.b.knows v=True:=rfl
theorem know_plain {S:St} (hS:Sim S) {v:Value} (h:knowB v):∃ a,v=.pointer (some a)∧plainB S.w a.block:=by
 rcases h with ⟨hf,a,cells,len,cap,rfl,hm,s,hs⟩ | ⟨a,cells,len,cap,rfl,hm,hn⟩
 case inr =>
  have hv:=(hS.kf _ hm).2
  cases hv with
  | pn x v h hr hp=>exact⟨a,rfl,(hp rfl a len cap rfl hn).1⟩
 refine⟨a,rfl,?_⟩
 have hv:=(hS.kf _ hm).2
 cases hv with
 | slc cells len a cap us hc hl hi hh =>
  obtain⟨j,hj⟩:=List.getElem?_of_mem hs
  have hlt:j<us.length:=by rw[hl]; exact getElem?_lt hj
  have hu:=hh j _ _ hj (List.getElem?_eq_getElem hlt)
  have hne:us≠[]:=fun e=>by rw[e]at hlt; simp at hlt
  rcases hi.2.2 hf hne with hp | hn
  · exact hp
  · have:=List.all_eq_true.1 hn _ (List.getElem_mem hlt)
    generalize us[j]=u at hu this
    cases hu
    cases this
def KK.szB (P:Program):KK->Bool
 | .p e=>match P.info? e with
  | some inf=>inf.size != 0
  | none=>false
 | .pp t e=>(match P.underlying t with
  | some (.pointer e')=>decide (e'=e)&&(match P.info? t with
   | some inf=>decide (inf.size=1)
   | none=>false)&&(match P.info? e with
   | some inf=>inf.size != 0
   | none=>false)
  | _=>false)
 | _=>true
theorem eq_ptrD {e kt:TypeId} (hk:P.underlying kt=some (.pointer e)) (hz:(KK.p e).szB P=true) {w:World} {a b:Addr} (ha:plainB w a.block) (hb:plainB w b.block) (d:Nat) :
 (Op.equalIn (d+1) kt (.pointer (some a)) (.pointer (some b))).run P w=.ok (decide (a=b)) w:=by
 simp only[KK.szB]at hz
 split at hz
 · rename_i j hj
   have hsz:j.size≠0:=by simpa using hz
   obtain⟨ca,ta,h1⟩:=ha
   obtain⟨cb,tb,h2⟩:=hb
   by_cases hab:a=b
   · subst hab
     simp[Op.equalIn,run_underlying hk,sizeOf,typeInfo,hj,run_sameAddr_same]
   · simp[Op.equalIn,run_underlying hk,sizeOf,typeInfo,hj,hsz,run_sameAddr_other w hab h1 h2,hab]
 · cases hz
theorem eq_ptr {e kt:TypeId} (hk:P.underlying kt=some (.pointer e)) (hz:(KK.p e).szB P=true) {w:World} {a b:Addr} (ha:plainB w a.block) (hb:plainB w b.block) :
 (Op.equal kt (.pointer (some a)) (.pointer (some b))).run P w=.ok (decide (a=b)) w:=eq_ptrD hk hz ha hb 9999
theorem pp_spec {t e:TypeId} (hz:(KK.pp t e).szB P=true):P.underlying t=some (.pointer e)∧(∃ j,P.info? t=some j∧j.size=1)∧(KK.p e).szB P=true:=by
 simp only[KK.szB]at hz
 split at hz
 · rename_i e' he
   simp only[Bool.and_eq_true,decide_eq_true_eq]at hz
   obtain⟨⟨h1,h2⟩,h3⟩:=hz
   subst h1
   refine⟨he,?_,by simpa only[KK.szB]using h3⟩
   split at h2
   · rename_i j hj; exact⟨j,hj,by simpa using h2⟩
   · cases h2
 · cases hz
theorem eq_pp {e t kt:TypeId} (hk:P.underlying kt=some (.array 2 t)) (hz:(KK.pp t e).szB P=true) {w:World} {a b c d:Addr} (ha:plainB w a.block) (hb:plainB w b.block) (hc:plainB w c.block) (hd:plainB w d.block) :
 (Op.equal kt (.agg #[.pointer (some a),.pointer (some b)]) (.agg #[.pointer (some c),.pointer (some d)])).run P w=.ok (decide (a=c)&&decide (b=d)) w:=by
 obtain⟨ht,⟨j,hj,hj1⟩,hz⟩:=pp_spec hz
 have h1:∀ n,(Op.equalIn (n+1) t (.pointer (some a)) (.pointer (some c))).run P w=.ok (decide (a=c)) w:=fun n=>eq_ptrD ht hz ha hc n
 have h2:∀ n,(Op.equalIn (n+1) t (.pointer (some b)) (.pointer (some d))).run P w=.ok (decide (b=d)) w:=fun n=>eq_ptrD ht hz hb hd n
 have key:∀ n:Nat,(Op.equalIn (n+2) kt (.agg #[.pointer (some a),.pointer (some b)]) (.agg #[.pointer (some c),.pointer (some d)])).run P w=.ok (decide (a=c)&&decide (b=d)) w:=fun n=>by
  rw[Op.equalIn]
  simp only[Sem.run_bind,run_underlying hk,Result.andThen]
  simp[List.range',sizeOf,typeInfo,hj,hj1,part,isAgg,run_underlying ht,h1,Sem.run_bind,Result.andThen]
  by_cases e1:a=c
  · subst e1
    by_cases e2:b=d
    · subst e2; simp[run_underlying ht,h2,Sem.run_bind,Result.andThen]
    · simp[run_underlying ht,h2,e2,Sem.run_bind,Result.andThen]
  · simp[e1]
 exact key 9998
theorem check_pp {e t kt:TypeId} (hk:P.underlying kt=some (.array 2 t)) (hz:(KK.pp t e).szB P=true) {w:World} {x y:Option Addr} (em:Bool) :
 (Instr.checkKey em 10000 kt (.agg #[.pointer x,.pointer y])).run P w=.ok () w:=by
 obtain⟨ht,⟨j,hj,hj1⟩,hz⟩:=pp_spec hz
 have h1:∀ (n:Nat) (a:Option Addr),(Instr.checkKey em (n+1) t (.pointer a)).run P w=.ok () w:=fun n a=>by simp[Instr.checkKey,run_underlying ht]
 have key:∀ n:Nat,(Instr.checkKey em (n+2) kt (.agg #[.pointer x,.pointer y])).run P w=.ok () w:=fun n=>by
  rw[Instr.checkKey]
  simp only[Sem.run_bind,run_underlying hk,Result.andThen]
  simp[List.range',sizeOf,typeInfo,hj,hj1,part,isAgg,run_underlying ht,h1,Sem.run_bind,Result.andThen]
 exact key 9998
theorem bits_pp {x y:Option Addr} {w:World}:(Instr.keyThatStays (.agg #[.pointer x,.pointer y]) (.agg #[.pointer x,.pointer y])).run P w=.ok (.agg #[.pointer x,.pointer y]) w:=by
 have key:∀ (n:Nat),Instr.sameBits (n+2) (.agg #[.pointer x,.pointer y]) (.agg #[.pointer x,.pointer y])=true:=fun n=>by simp[Instr.sameBits]
 simp only[Instr.keyThatStays,key 9998,if_true]; rfl
section
variable {S:St}
theorem vkeq_ptr {a b:Addr}:vkeq (.pointer (some a)) (.pointer (some b))=decide (a=b):=rfl
theorem run_ask {kt:TypeId} {k:Value} {x:MapEntry} {es:List MapEntry} {i:Nat} {w:World} {b:Bool} (h:(Op.equal kt k x.key).run P w=.ok b w) :
 (Instr.findAsking kt k (x::es) i).run P w=if b=true then .ok (some (i,x.val)) w else(Instr.findAsking kt k es (i+1)).run P w:=by
 rw[Instr.findAsking]
 cases b<;>simp[Sem.run_bind,h,Result.andThen]
theorem ask_find {kt:TypeId} {k:Value}:∀ (es:List MapEntry) (vs:List SV) (i:Nat),(∀ v∈es.map (·.key),(Op.equal kt k v).run P S.w=.ok (vkeq k v) S.w)->VRs S vs (es.map (·.val)) →
 ∃ r,(Instr.findAsking kt k es i).run P S.w=.ok r S.w∧match lkm k (es.map (·.key)) vs with
  | none=>r=none
  | some s=>∃ j u,r=some (j,u)∧VR S s u
 | [],vs,i,_,hv=>by
  have:vs=[]:=by have:=hv.1; simpa using this.symm
  subst this
  exact⟨none,by simp[Instr.findAsking],rfl⟩
 | x::es,vs,i,ha,hv=>by
  obtain⟨v,vs,rfl⟩:∃ v r,vs=v::r:=by
   cases vs with
   | nil=>have:=hv.1; simp at this
   | cons v r=>exact⟨v,r,rfl⟩
  have hv0:VR S v x.val:=hv.2 0 v x.val rfl rfl
  have hvr:VRs S vs (es.map (·.val)):=⟨by have:=hv.1; simpa using this,fun j s u h1 h2=>hv.2 (j+1) s u h1 h2⟩
  have heq:=run_ask (es:=es) (i:=i) (ha x.key (by simp))
  simp only[List.map_cons,lkm]
  by_cases hke:vkeq k x.key=true
  · rw[if_pos hke]at heq ⊢
    exact⟨some (i,x.val),heq,i,x.val,rfl,hv0⟩
  · rw[if_neg hke]at heq ⊢
    obtain⟨r,h3,h4⟩:=ask_find es vs (i+1) (fun v hv=>ha v (by simp only[List.map_cons,List.mem_cons]; exact .inr hv)) hvr
    exact⟨r,heq.trans h3,h4⟩
theorem ask_mset {kt:TypeId} {k:Value} {s:SV} {u:Value} (hs:VR S s u):∀ (es:List MapEntry) (vs:List SV) (i:Nat),(∀ v∈es.map (·.key),(Op.equal kt k v).run P S.w=.ok (vkeq k v) S.w∧(vkeq k v=true->v=k))->VRs S vs (es.map (·.val)) →
   ((Instr.findAsking kt k es i).run P S.w=.ok none S.w∧msetK k (es.map (·.key))=es.map (·.key)++[k]∧VRs S (msetV k s (es.map (·.key)) vs) (es.map (·.val)++[u])) ∨
   (∃ j x,(Instr.findAsking kt k es i).run P S.w=.ok (some (i+j,x.val)) S.w∧es[j]? = some x∧x.key=k∧msetK k (es.map (·.key))=es.map (·.key)∧VRs S (msetV k s (es.map (·.key)) vs) ((es.map (·.val)).set j u))
 | [],vs,i,_,hv=>.inl ⟨by simp[Instr.findAsking],rfl,by
     have:vs=[]:=by have:=hv.1; simpa using this.symm
     subst this
     exact VRs.cons hs (VRs.nil S)⟩
 | x::es,vs,i,ha,hv=>by
   obtain⟨v,vs,rfl⟩:∃ v r,vs=v::r:=by
     cases vs with
     | nil=>have:=hv.1; simp at this
     | cons v r=>exact⟨v,r,rfl⟩
   have hv0:VR S v x.val:=hv.2 0 v x.val rfl rfl
   have hvr:VRs S vs (es.map (·.val)):=⟨by have:=hv.1; simpa using this,fun j s u h1 h2=>hv.2 (j+1) s u h1 h2⟩
   obtain⟨hx1,hx2⟩:=ha x.key (by simp)
   have heq:=run_ask (es:=es) (i:=i) hx1
   simp only[List.map_cons,msetK,msetV]
   by_cases hke:vkeq k x.key=true
   · rw[if_pos hke]at heq
     rw[if_pos hke,if_pos hke]
     exact .inr ⟨0,x,heq,rfl,hx2 hke,rfl,by simpa using VRs.cons hs hvr⟩
   · rw[if_neg hke]at heq
     rw[if_neg hke,if_neg hke]
     have hrun:∀ r,(Instr.findAsking kt k es (i+1)).run P S.w=.ok r S.w->(Instr.findAsking kt k (x::es) i).run P S.w=.ok r S.w:=fun r h3=>heq.trans h3
     rcases ask_mset hs es vs (i+1) (fun v hv=>ha v (by simp only[List.map_cons,List.mem_cons]; exact .inr hv)) hvr with ⟨h3,h4,h5⟩ | ⟨j,x',h3,h4,h5,h6,h7⟩
     · exact .inl ⟨hrun _ h3,by rw[h4]; rfl,by simpa using VRs.cons hv0 h5⟩
     · exact .inr ⟨j + 1, x', by have e : i + 1 + j = i + (j + 1) := by omega
                                 rw[←e]; exact hrun _ h3,by simpa using h4,h5,by rw[h6],by simpa using VRs.cons hv0 h7⟩
theorem findKey_ask {d:TypeDesc} {kt:TypeId} (hk:P.underlying kt=some d) {k:Value} (hno:∀ x,Instr.sameNow d k x=none) (es:List MapEntry):(Instr.findKey kt k es).run P S.w=(Instr.findAsking kt k es).run P S.w:=by
 cases es with
 | nil=>simp[Instr.findKey,run_underlying hk,Instr.findNow,Instr.findAsking]
 | cons x es=>simp[Instr.findKey,run_underlying hk,Instr.findNow,hno]
theorem ask_ok {kk:KK} {kt:TypeId} (hp:kk.ptr=true) (hk:P.underlying kt=some kk.desc) (hz:kk.szB P=true) (hS:Sim S) {k:Value} {vs:List Value} (hkn:∀ v∈k::vs,kk.knows v) :
 (∀ x,Instr.sameNow kk.desc k x=none)∧∀ v∈vs,(Op.equal kt k v).run P S.w=.ok (vkeq k v) S.w∧(vkeq k v=true->v=k):=by
 cases kk with
 | p e =>
  refine⟨fun x=>by simp[KK.desc,Instr.sameNow],fun v hv => ?_⟩
  obtain⟨a,rfl,h1⟩:=know_plain hS (hkn k (by simp))
  obtain⟨b,rfl,h2⟩:=know_plain hS (hkn v (List.mem_cons_of_mem _ hv))
  exact⟨eq_ptr hk hz h1 h2,fun h=>by rw[vkeq_ptr]at h; rw[of_decide_eq_true h]⟩
 | pp t e =>
  refine⟨fun x=>by simp[KK.desc,Instr.sameNow],fun v hv => ?_⟩
  obtain⟨x,y,rfl,h1,h2⟩:=hkn k (by simp)
  obtain⟨x',y',rfl,h3,h4⟩:=hkn v (List.mem_cons_of_mem _ hv)
  obtain⟨a,rfl,k1⟩:=know_plain hS h1
  obtain⟨b,rfl,k2⟩:=know_plain hS h2
  obtain⟨c,rfl,k3⟩:=know_plain hS h3
  obtain⟨d,rfl,k4⟩:=know_plain hS h4
  refine⟨eq_pp hk hz k1 k2 k3 k4,fun h => ?_⟩
  have h:(decide (a=c)&&decide (b=d))=true:=h
  simp only[Bool.and_eq_true,decide_eq_true_eq]at h
  rw[h.1,h.2]
 | _=>cases hp
theorem find_all {kk:KK} {kt:TypeId} (hk:P.underlying kt=some kk.desc) (hz:kk.szB P=true) (hS:Sim S) {k:Value} (h:kk.is k=true) {es:List MapEntry} {vs:List SV} (ha:(es.map (·.key)).all kk.is=true) (hkn:∀ v∈k::es.map (·.key),kk.knows v) (hv:VRs S vs (es.map (·.val))) :
 ∃ r,(Instr.findKey kt k es).run P S.w=.ok r S.w∧match lkm k (es.map (·.key)) vs with
  | none=>r=none
  | some s=>∃ j u,r=some (j,u)∧VR S s u:=by
 by_cases hp:kk.ptr=false
 · obtain⟨r,h1,h2⟩:=lkm_find hp h es vs 0 ha hv
   exact⟨r,run_findKey hk h1,h2⟩
 · obtain⟨k1,k2⟩:=ask_ok (by simpa using hp) hk hz hS hkn
   obtain⟨r,h1,h2⟩:=ask_find es vs 0 (fun v hv=>(k2 v hv).1) hv
   exact⟨r,by rw[findKey_ask hk k1]; exact h1,h2⟩
theorem mset_all {kk:KK} {kt:TypeId} (hk:P.underlying kt=some kk.desc) (hz:kk.szB P=true) (hS:Sim S) {k:Value} (h:kk.is k=true) {s:SV} {u:Value} (hs:VR S s u) {es:List MapEntry} {vs:List SV} (ha:(es.map (·.key)).all kk.is=true) (hkn:∀ v∈k::es.map (·.key),kk.knows v) (hv:VRs S vs (es.map (·.val))) :
 ((Instr.findKey kt k es).run P S.w=.ok none S.w∧msetK k (es.map (·.key))=es.map (·.key)++[k]∧VRs S (msetV k s (es.map (·.key)) vs) (es.map (·.val)++[u])) ∨
 (∃ j x,(Instr.findKey kt k es).run P S.w=.ok (some (j,x.val)) S.w∧es[j]? = some x∧x.key=k∧msetK k (es.map (·.key))=es.map (·.key)∧VRs S (msetV k s (es.map (·.key)) vs) ((es.map (·.val)).set j u)):=by
 by_cases hp:kk.ptr=false
 · rcases mset_find hp h hs es vs 0 ha hv with ⟨h1,h2,h3⟩ | ⟨j,x,h1,h2,h3,h4,h5⟩
   · exact .inl ⟨run_findKey hk h1,h2,h3⟩
   · exact .inr ⟨j,x,by rw[run_findKey hk h1,Nat.zero_add],h2,h3,h4,h5⟩
 · obtain⟨k1,k2⟩:=ask_ok (by simpa using hp) hk hz hS hkn
   rcases ask_mset hs es vs 0 k2 hv with ⟨h1,h2,h3⟩ | ⟨j,x,h1,h2,h3,h4,h5⟩
   · exact .inl ⟨by rw[findKey_ask hk k1]; exact h1,h2,h3⟩
   · exact .inr ⟨j,x,by rw[findKey_ask hk k1,h1,Nat.zero_add],h2,h3,h4,h5⟩
theorem check_all {kk:KK} {kt:TypeId} (hk:P.underlying kt=some kk.desc) (hz:kk.szB P=true) {k:Value} (h:kk.is k=true) (b:Bool) {w:World}:(Instr.checkKey b 10000 kt k).run P w=.ok () w:=by
 by_cases hp:kk.ptr=false
 · exact run_checkKey hk (KK.isKey hp h) b 9999
 · cases kk with
   | p e =>
    have hd:P.underlying kt=some (.pointer e):=hk
    have key:∀ (n:Nat) (a:Option Addr),(Instr.checkKey b (n+1) kt (.pointer a)).run P w=.ok () w:=fun n a=>by simp[Instr.checkKey,run_underlying hd]
    cases k with
    | pointer a=>exact key 9999 a
    | _=>cases h
   | pp t e =>
    unfold KK.is at h
    split at h
    all_goals first
     | contradiction
     | exact check_pp hk hz b
   | _=>exact absurd rfl hp
theorem stays_all {kk:KK} {k:Value} (h:kk.is k=true) {w:World}:(Instr.keyThatStays k k).run P w=.ok k w:=by
 by_cases hp:kk.ptr=false
 · exact run_keyThatStays (KK.isKey hp h)
 · cases kk with
   | p e =>
    have key:∀ (n:Nat) (a:Option Addr),Instr.sameBits n (.pointer a) (.pointer a)=true:=fun n a=>by cases n<;>simp[Instr.sameBits]
    cases k with
    | pointer a=>simp only[Instr.keyThatStays,key 10000 a,if_true]; rfl
    | _=>cases h
   | pp t e =>
    unfold KK.is at h
    split at h
    all_goals first
     | contradiction
     | exact bits_pp
   | _=>exact absurd rfl hp
end
end Go.Ab
namespace Go.Ab
variable [GlobEnv] [FrEnv] [KnEnv]
inductive BK where
 | i (k:IntKind)
 | sh (k yk:IntKind)
 | s
 | b
 | pnil (right:Bool)
inductive CK where
 | i (k:IntKind)
 | b
 | s
inductive I where
 | eqf (neg:Bool) (ks:List CK) (x y:Od)
 | mov (x:Od)
 | pick (c a b:Od)
 | bin (op:BinOp) (k:BK) (x y:Od)
 | neg (k:IntKind) (x:Od)
 | not (x:Od)
 | cvi (k:IntKind) (x:Od)
 | ld1 (p:Od)
 | ldn (n:Nat) (p:Od)
 | fa (off:Nat) (p:Od)
 | fld1 (off:Nat) (x:Od)
 | fldn (off n:Nat) (x:Od)
 | ia (sz:Nat) (s i:Od)
 | iap (len sz:Nat) (p i:Od)
 | ixs (s i:Od)
 | ixa (len sz:Nat) (one:Bool) (x i:Od)
 | sl (sz:Nat) (x:Od) (lo hi:Option Od)
 | sls (x:Od) (lo hi:Option Od)
 | sla (n sz:Nat) (p:Od) (lo hi:Option Od)
 | ext (x:Od) (i:Nat)
 | len (x:Od)
 | lens (x:Od)
 | mm (mx:Bool) (k:IntKind) (x y:Od)
 | mkf (f:Fn) (first cap:List Od)
 | mki (t:TypeId) (x:Od)
 | nck (x:Od)
 | bld (z:List SV) (parts:List (Nat×Nat×Od))
 | kro (T:TypeId) (sz len:Nat) (z:List SV) (parts:List (Nat×SV))
 | kr1 (T:TypeId) (len:Nat) (z:List SV) (parts:List (Nat×Od))
 | ifn (neg right:Bool) (x:Od)
 | fnn (neg right:Bool) (x:Od)
 | rst (x:Od)
 | tas (t:TypeId) (ok:Bool) (z:SV) (x:Od)
 | gix (g len sz:Nat) (cs:List SV) (j:Od)
 | lkp (kk:KK) (ok:Bool) (z:SV) (m k:Od)
 | iav (sz:Nat) (s j:Od)
 | lnv (x:Od)
 | bys (x:Od)
 | no
def bitsI (op:BinOp) (k:IntKind) (x y:Int):Int :=
 let a:=BitVec.ofInt k.bits x
 let b:=BitVec.ofInt k.bits y
 match op with
 | .and=>k.wrap (a &&& b).toNat
 | .or=>k.wrap (a ||| b).toNat
 | .xor=>k.wrap (a ^^^ b).toNat
 | _=>k.wrap (a &&& ~~~b).toNat
def i64 (n:Int):SV:=.val (.int .i64 n)
def bl (b:Bool):SV:=.val (.bool b)
def st (s:ByteArray):SV:=.val (.string s)
def pbin (op:BinOp) (k:BK) (x y:SV):Prop×SV :=
 match k with
 | .i k =>
  match op with
  | .add=>(x.isI k=true∧y.isI k=true,.val (.int k (k.wrap (x.int+y.int))))
  | .sub=>(x.isI k=true∧y.isI k=true,.val (.int k (k.wrap (x.int-y.int))))
  | .mul=>(x.isI k=true∧y.isI k=true,.val (.int k (k.wrap (x.int*y.int))))
  | .quo=>(x.isI k=true∧y.isI k=true∧y.int≠0,.val (.int k (k.wrap (x.int.tdiv y.int))))
  | .rem=>(x.isI k=true∧y.isI k=true∧y.int≠0,.val (.int k (x.int.tmod y.int)))
  | .and=>(x.isI k=true∧y.isI k=true,.val (.int k (bitsI .and k x.int y.int)))
  | .or=>(x.isI k=true∧y.isI k=true,.val (.int k (bitsI .or k x.int y.int)))
  | .xor=>(x.isI k=true∧y.isI k=true,.val (.int k (bitsI .xor k x.int y.int)))
  | .andNot=>(x.isI k=true∧y.isI k=true,.val (.int k (bitsI .andNot k x.int y.int)))
  | .eql=>(x.isI k=true∧y.isI k=true,bl (decide (x.int=y.int)))
  | .neq=>(x.isI k=true∧y.isI k=true,bl (!decide (x.int=y.int)))
  | .lss=>(x.isI k=true∧y.isI k=true,bl (decide (x.int<y.int)))
  | .leq=>(x.isI k=true∧y.isI k=true,bl (decide (x.int≤y.int)))
  | .gtr=>(x.isI k=true∧y.isI k=true,bl (decide (y.int<x.int)))
  | .geq=>(x.isI k=true∧y.isI k=true,bl (decide (y.int≤x.int)))
  | _=>(False,.any)
 | .sh k yk =>
  match op with
  | .shl=>(x.isI k=true∧y.isI yk=true∧0≤y.int,.val (.int k (k.wrap (x.int*2 ^ (min y.int.toNat k.bits)))))
  | .shr=>(x.isI k=true∧y.isI yk=true∧0≤y.int,.val (.int k (x.int.fdiv (2 ^ (min y.int.toNat k.bits)))))
  | _=>(False,.any)
 | .s =>
  match op with
  | .add=>(x.isS=true∧y.isS=true∧x.str.size+y.str.size≤9223372036854775807,st (x.str++y.str))
  | .eql=>(x.isS=true∧y.isS=true,bl (decide (x.str.data.toList=y.str.data.toList)))
  | .neq=>(x.isS=true∧y.isS=true,bl (!decide (x.str.data.toList=y.str.data.toList)))
  | .lss=>(x.isS=true∧y.isS=true,bl (Op.bytesLess x.str.data.toList y.str.data.toList))
  | .gtr=>(x.isS=true∧y.isS=true,bl (!(Op.bytesLess x.str.data.toList y.str.data.toList||decide (x.str.data.toList=y.str.data.toList))))
  | _=>(False,.any)
 | .b =>
  match op with
  | .eql=>(x.isB=true∧y.isB=true,bl (x.bool==y.bool))
  | .neq=>(x.isB=true∧y.isB=true,bl (x.bool != y.bool))
  | _=>(False,.any)
 | .pnil right =>
  let z:=if right then x else y
  match op,z.ug with
  | .eql,.ptr _ _=>(z.vd=true,bl false)
  | .neq,.ptr _ _=>(z.vd=true,bl true)
  | .eql,.val (.pointer none)=>(z.vd=true,bl true)
  | .neq,.val (.pointer none)=>(z.vd=true,bl false)
  | _,_=>(False,.any)
def eqSide:List CK->List SV->List SV->Prop
 | .i k::r,x::l,y::m=>(x.isI k=true∧y.isI k=true)∧eqSide r l m
 | .b::r,x::l,y::m=>(x.isB=true∧y.isB=true)∧eqSide r l m
 | .s::r,x::l,y::m=>(x.isS=true∧y.isS=true)∧eqSide r l m
 | [],[],[]=>True
 | _,_,_=>False
def eqAll:List CK->List SV->List SV->Bool
 | .i _::r,x::l,y::m=>decide (x.int=y.int)&&eqAll r l m
 | .b::r,x::l,y::m=>(x.bool==y.bool)&&eqAll r l m
 | .s::r,x::l,y::m=>decide (x.str.data.toList=y.str.data.toList)&&eqAll r l m
 | _,_,_=>true
def loOf:Option SV->Nat
 | none=>0
 | some x=>x.int.toNat
def hiOf (n:Nat):Option SV->Nat
 | none=>n
 | some x=>x.int.toNat
def bdOf:Option SV->Prop
 | none=>True
 | some x=>x.isN=true∧0≤x.int
def SV.cut (sz l h:Nat):SV->SV
 | .slc cs _=>.slc ((cs.drop (l*sz)).take ((h-l)*sz)) (h-l)
 | .own i off _ sz' ver=>.own i (off+l*sz) (h-l) sz' ver
 | _=>.slc [] 0
def SV.cutA (sz l h:Nat):SV->SV
 | .ptr (.own i off _ _ ver) k=>.own i (off+k+l*sz) (h-l) sz ver
 | .ptr (.slc cs _) k=>.slc ((cs.drop (k+l*sz)).take ((h-l)*sz)) (h-l)
 | _=>.any
def SV.u8n:SV->Option Int
 | .val (.int .u8 n)=>some n
 | _=>none
def bysL:List SV->List Int
 | []=>[]
 | s::r=>(s.u8n.getD 0)::bysL r
def bysB (l:List SV) (n:Nat):Bool:=decide (n≤l.length)&&(l.take n).all fun s=>s.u8n.isSome
def bysS (l:List SV):ByteArray:=(bysL l).foldl (fun r n=>r.push (UInt8.ofNat n.toNat)) ByteArray.empty
def SV.szIs (sz:Nat):SV->Bool
 | .own _ _ _ s _=>s==sz
 | _=>true
def SV.flat:SV->List SV
 | .agg l=>l
 | x=>[x]
def fillS (z:List SV):List (Nat×SV)->List SV
 | []=>z
 | (off,v)::r =>
  fillS (z.take off++v.ug.flat++z.drop (off+v.ug.flat.length)) r
def partOk (size:Nat) (v:SV):Prop :=
 match v.ug with
 | .agg l=>l.length=size∧v.vd=true
 | x=>size=1∧x.isCell=true∧v.vd=true
def SV.isIf:SV->Bool
 | .ifc _ _=>true
 | .val .nilIface=>true
 | _=>false
def SV.isFn:SV->Bool
 | .fn _ _ _=>true
 | .val .nilFunc=>true
 | _=>false
def SV.fnNil:SV->Bool
 | .fn _ _ _=>false
 | _=>true
def SV.ifNil:SV->Bool
 | .ifc _ _=>false
 | _=>true
def SV.ifIs (t:TypeId):SV->Bool
 | .ifc t' _=>t'==t
 | _=>false
def SV.ifVal:SV->SV
 | .ifc _ v=>v
 | _=>.any
def pv (i:I) (g:Od->SV) (H:List AO):Prop×SV :=
 match i with
 | .eqf neg ks x y =>
  match (g x).ug,(g y).ug with
  | .agg l,.agg m=>((g x).vd=true∧(g y).vd=true∧eqSide ks l m,bl (if neg then !eqAll ks l m else eqAll ks l m))
  | _,_=>(False,.any)
 | .mov x=>(True,g x)
 | .pick c a b=>((g c).isB=true∧((g c).bool=true->(g a).isB=true)∧((g c).bool=false->(g b).isB=true),bl (cond (g c).bool (g a).bool (g b).bool))
 | .bin op k x y=>pbin op k (g x) (g y)
 | .neg k x=>((g x).isI k=true,.val (.int k (k.wrap (0-(g x).int))))
 | .not x=>((g x).isB=true,bl (!(g x).bool))
 | .cvi k x=>((g x).isN=true,.val (.int k (k.wrap (g x).int)))
 | .ld1 p=>((g p).vd=true∧0<((g p).ug.at H).length,((g p).ug.at H).headD .any)
 | .ldn n p=>((g p).vd=true∧n≤((g p).ug.at H).length∧0<n,.agg (((g p).ug.at H).take n))
 | .fa off p =>
  match (g p).ug with
  | .ptr s k=>((g p).vd=true,.ptr s (k+off))
  | _=>(False,.any)
 | .fld1 off x =>
  match (g x).ug with
  | .agg l=>((g x).vd=true∧off<l.length,l.getD off .any)
  | _=>(False,.any)
 | .fldn off n x =>
  match (g x).ug with
  | .agg l=>((g x).vd=true∧off+n≤l.length,.agg ((l.drop off).take n))
  | _=>(False,.any)
 | .ia sz s j=>((g s).vd=true∧(g s).ug.isSl=true∧(g j).isN=true∧0≤(g j).int∧(g j).int<(g s).ug.slen,.ptr (g s).ug ((g j).int.toNat*sz))
 | .iap len sz p j =>
  match (g p).ug with
  | .ptr s k=>((g p).vd=true∧(g j).isN=true∧0≤(g j).int∧(g j).int<len,.ptr s (k+(g j).int.toNat*sz))
  | _=>(False,.any)
 | .ixs s j=>((g s).isS=true∧(g j).isN=true∧0≤(g j).int∧(g j).int<(g s).str.size,.val (.int .u8 ((g s).str.data.toList.getD (g j).int.toNat 0).toNat))
 | .ixa len sz one x j =>
  match (g x).ug with
  | .agg l=>((g x).vd=true∧(g j).isN=true∧0≤(g j).int∧(g j).int<len∧l.length=len*sz∧(one=true->sz=1),
   if one then l.getD (g j).int.toNat .any else .agg ((l.drop ((g j).int.toNat*sz)).take sz))
  | _=>(False,.any)
 | .sl sz x lo hi =>
  let l:=loOf (lo.map g)
  let h:=hiOf (g x).ug.slen (hi.map g)
  (((g x).vd=true∧(g x).ug.isSl=true∧(g x).ug.szIs sz=true∧bdOf (lo.map g)∧bdOf (hi.map g)∧l≤h∧h≤(g x).ug.slen),(g x).ug.cut sz l h)
 | .sls x lo hi =>
  let l:=loOf (lo.map g)
  let h:=hiOf (g x).str.size (hi.map g)
  (((g x).isS=true∧bdOf (lo.map g)∧bdOf (hi.map g)∧l≤h∧h≤(g x).str.size),st ((g x).str.extract l h))
 | .sla n sz p lo hi =>
  let l:=loOf (lo.map g)
  let h:=hiOf n (hi.map g)
  (((g p).vd=true∧n*sz≤((g p).ug.at H).length∧0<n*sz∧bdOf (lo.map g)∧bdOf (hi.map g)∧l≤h∧h≤n),(g p).ug.cutA sz l h)
 | .ext x j =>
  match (g x).ug with
  | .tup l=>((g x).vd=true∧j<l.length,l.getD j .any)
  | _=>(False,.any)
 | .len x=>((g x).vd=true∧(g x).ug.isSl=true,i64 (g x).ug.slen)
 | .lens x=>((g x).isS=true,i64 (g x).str.size)
 | .mm mx k x y=>((g x).isI k=true∧(g y).isI k=true,.val (.int k (if mx then max (g x).int (g y).int else min (g x).int (g y).int)))
 | .mkf f first cap=>(True,.fn f (first.map g) (cap.map g))
 | .mki t x=>(True,.ifc t (g x))
 | .nck x =>
  match (g x).ug with
  | .ptr s k=>((g x).vd=true,.ptr s k)
  | .fn (.func f) a b=>((g x).vd=true,.fn (.func f) a b)
  | _=>(False,.any)
 | .kr1 _ len z parts=>(((fillS (List.replicate len z).flatten (parts.map fun p=>(p.1*1,g p.2))).all SV.isCell=true∧SV.underL 0 (fillS (List.replicate len z).flatten (parts.map fun p=>(p.1*1,g p.2)))=true∧(fillS (List.replicate len z).flatten (parts.map fun p=>(p.1*1,g p.2))).length=len*1)∧∀ p∈parts,p.1*1+1≤len*1∧partOk 1 (g p.2),.slc (fillS (List.replicate len z).flatten (parts.map fun p=>(p.1*1,g p.2))) len)
 | .kro _ sz len z parts=>(True,.slc (fillS (List.replicate len z).flatten (parts.map fun p=>(p.1*sz,p.2))) len)
 | .bld z parts=>(∀ p∈parts,partOk p.2.1 (g p.2.2)∧p.1+p.2.1≤z.length,.agg (fillS z (parts.map fun p=>(p.1,g p.2.2))))
 | .ifn neg _ x=>((g x).vd=true∧(g x).ug.isIf=true,bl (if(g x).ug.ifNil=true then !neg else neg))
 | .rst x=>((g x).isN=true,.val (.string (Utf8.encode (g x).int)))
 | .fnn neg _ x=>((g x).vd=true∧(g x).ug.isFn=true,bl (if(g x).ug.fnNil=true then !neg else neg))
 | .tas t ok z x=>((g x).vd=true∧(g x).ug.isIf=true∧(ok=true∨(g x).ug.ifIs t=true),
  if ok=true then(if(g x).ug.ifIs t=true then .tup [(g x).ug.ifVal,bl true]else .tup [z,bl false])else(g x).ug.ifVal)
 | .gix _ len sz cs j=>((g j).isN=true∧0≤(g j).int∧(g j).int<len,.ptr (.slc cs cs.length) ((g j).int.toNat*sz))
 | .lkp kk ok z m k =>
  match (g m).ug.mapOf H with
  | some x=>((g m).vd=true∧(g k).isK kk=true∧x.1.all kk.is=true∧(∀ v∈(g k).key kk::x.1,kk.knows v),
   if ok then .tup [(lkm ((g k).key kk) x.1 x.2).getD z,bl (lkm ((g k).key kk) x.1 x.2).isSome]else(lkm ((g k).key kk) x.1 x.2).getD z)
  | none=>(False,.any)
 | .iav sz s j =>
  match (g s).ug with
  | .val (.slice (some a) len _)=>((g s).vd=true∧(g j).isN=true∧0≤(g j).int∧(g j).int<len,.val (.pointer (some (a.add ((g j).int.toNat*sz)))))
  | _=>(False,.any)
 | .bys x=>((g x).vd=true∧(g x).ug.isSl=true∧bysB ((g x).ug.row H) (g x).ug.slen=true,.val (.string (bysS (((g x).ug.row H).take (g x).ug.slen))))
 | .lnv x =>
  match (g x).ug with
  | .val (.slice _ len _)=>((g x).vd=true,i64 len)
  | _=>(False,.any)
 | .no=>(False,.any)
def oneB (P:Program) (t:TypeId):Bool :=
 match P.underlying t with
 | some (.struct _) | some (.array _ _)=>false
 | some _=>true
 | none=>false
def aggB (P:Program) (t:TypeId):Bool :=
 match P.underlying t with
 | some (.struct _) | some (.array _ _)=>true
 | _=>false
def sizeB (P:Program) (t:TypeId) (n:Nat):Bool:=match P.info? t with | some i=>i.size==n | none=>false
def slB (P:Program) (t:TypeId) (sz:Nat):Bool :=
 match P.underlying t with
 | some (.slice e)=>sizeB P e sz
 | _=>false
def fieldB (P:Program) (s:TypeId) (f:Nat) (off size:Nat):Bool :=
 match P.underlying s with
 | some (.struct fs)=>match fs[f]? with
  | some fd=>fd.offset==off&&sizeB P fd.type size
  | none=>false
 | _=>false
def fieldOneB (P:Program) (s:TypeId) (f:Nat) (one:Bool):Bool :=
 match P.underlying s with
 | some (.struct fs)=>match fs[f]? with
  | some fd=>if one then oneB P fd.type else aggB P fd.type
  | none=>false
 | _=>false
def chkOp:Option Operand->Option Od->Bool
 | none,none=>true
 | some x,some y=>chkOd x y
 | _,_=>false
def chkOds:List Operand->List Od->Bool
 | [],[]=>true
 | x::r,y::s=>chkOd x y&&chkOds r s
 | _,_=>false
def boolTB (P:Program) (t:TypeId):Bool:=match P.underlying t with | some .bool=>true | _=>false
def ptrTB (P:Program) (t:TypeId):Bool:=match P.underlying t with | some (.pointer _)=>true | _=>false
def chkBin (P:Program) (op:BinOp) (t:TypeId) (x y:Operand) (k:BK):Bool :=
 match k with
 | .i _=>match op with
  | .shl | .shr=>false
  | _=>true
 | .sh _ _=>match op with
  | .shl | .shr=>true
  | _=>false
 | .s=>true
 | .b=>boolTB P t&&(op==.eql||op==.neq)
 | .pnil right=>ptrTB P t&&(op==.eql||op==.neq)&&(match (if right then y else x)with | .const (.pointer none)=>true | _=>false)
def zeroB (P:Program) (t:TypeId) (z:List SV):Bool :=
 match P.info? t with
 | some i=>match i.zero with
  | some zv=>zv.cells.toList.length==z.length&&(z.zip zv.cells.toList).all fun p=>constB p.1 p.2&&p.1.isCell
  | none=>false
 | none=>false
def structB (P:Program) (t:TypeId):Bool :=
 match P.underlying t with
 | some (.struct fs)=>fs.toList.all fun fd=>(P.info? fd.type).isSome
 | some (.array _ e)=>(P.info? e).isSome
 | _=>false
def partsB (P:Program) (t:TypeId):List (Nat×Operand)->List (Nat×Nat×Od)->Bool
 | [],[]=>true
 | (f,x)::r,(off,size,y)::s=>chkOd x y &&
   (match P.underlying t with
    | some (.struct fs)=>fieldB P t f off size
    | some (.array _ e)=>off==f*size&&sizeB P e size
    | _=>false)&&partsB P t r s
 | _,_=>false
def ckB (P:Program) (t:TypeId):CK->Bool
 | .i k=>match P.underlying t with | some (.int k')=>decide (k=k') | _=>false
 | .b=>match P.underlying t with | some .bool=>true | _=>false
 | .s=>match P.underlying t with | some .string=>true | _=>false
def flatB (P:Program):List Field->List CK->Nat->Bool
 | [],[],_=>true
 | f :: r, k :: s, j => f.name != "_" && f.offset == j && ckB P f.type k && flatB P r s (j + 1)
 | _,_,_=>false
def flatT (P:Program) (t:TypeId) (ks:List CK):Bool :=
 !P.eqGuardType P.depth t&&(match P.underlying t with
  | some (.struct fs) => !P.stoodInHeld t&&flatB P fs.toList ks 0
  | some (.array n e)=>decide (ks.length=n)&&sizeB P e 1&&ks.all (ckB P e)
  | _=>false)
def zeroV (P:Program) (t:TypeId) (z:SV):Bool :=
 match P.info? t with
 | some i=>match i.zero with
  | some zv=>match z,zv with
   | .agg l,.agg vs=>decide (vs.toList.length=l.length)&&(l.zip vs.toList).all fun p=>constB p.1 p.2
   | .agg _,_=>false
   | z,zv=>constB z zv
  | none=>false
 | none=>false
def ifT (P:Program) (t:TypeId):Bool:=match P.underlying t with | some (.interface _)=>true | _=>false
def fnT (P:Program) (t:TypeId):Bool:=match P.underlying t with | some (.func _ _ _)=>true | _=>false
def noIfT (P:Program) (t:TypeId):Bool:=match P.underlying t with | some (.interface _)=>false | some _=>true | none=>false
def constL:List SV->List Value->Bool
 | [],[]=>true
 | s::r,v::vs=>constB s v&&constL r vs
 | _,_=>false
def varB (g:Nat) (cs:List SV):Bool:=match GlobEnv.vars g with | some us=>constL cs us | none=>false
def mapB (P:Program) (t:TypeId) (kk:KK) (z:SV):Bool :=
 match P.underlying t with
 | some (.map kt et)=>(match P.underlying kt with
  | some .string=>(match kk with | .s=>true | _=>false)
  | some (.int k)=>(match kk with | .i k'=>decide (k'=k) | _=>false)
  | some .bool=>(match kk with | .b=>true | _=>false)
  | some (.pointer e)=>(match kk with | .p e'=>decide (e'=e)&&(KK.p e').szB P | _=>false)
  | some (.array n t)=>(match kk with | .pp t' e'=>decide (n=2∧t'=t)&&(KK.pp t' e').szB P | _=>false)
  | _=>false)&&zeroV P et z
 | _=>false
def chkI (P:Program) (op:Op) (i:I):Bool :=
 match i with
 | .eqf neg ks x' y'=>match op with | .binOp op t x y _=>chkOd x x'&&chkOd y y'&&flatT P t ks&&(if neg then op==.neq else op==.eql) | _=>false
 | .mov y=>match op with | .move x | .assign x=>chkOd x y | _=>false
 | .pick c' a' b'=>match op with | .pick c a b=>chkOd c c'&&chkOd a a'&&chkOd b b' | _=>false
 | .bin op' k x' y'=>match op with | .binOp op t x y _=>op==op'&&chkOd x x'&&chkOd y y'&&chkBin P op t x y k | _=>false
 | .neg _ x'=>match op with | .unOp .neg _ x=>chkOd x x' | _=>false
 | .not x'=>match op with | .unOp .not _ x=>chkOd x x' | _=>false
 | .cvi k x'=>match op with | .convert s d x=>chkOd x x'&&(P.underlying s).isSome&&(match P.underlying d with | some (.int k')=>decide (k'=k) | _=>false) | _=>false
 | .ld1 p=>match op with | .load t a=>chkOd a p&&oneB P t | _=>false
 | .ldn n p=>match op with | .load t a=>chkOd a p&&aggB P t&&sizeB P t n | _=>false
 | .fa off p=>match op with | .fieldAddr s x f=>chkOd x p&&(match P.underlying s with | some (.struct fs)=>(match fs[f]? with | some fd=>fd.offset==off&&(match P.info? fd.type with | some i=>i.size != 0 | none=>false) | none=>false) | _=>false) | _=>false
 | .fld1 off x'=>match op with | .field s x f=>chkOd x x'&&fieldB P s f off 1&&fieldOneB P s f true | _=>false
 | .fldn off n x'=>match op with | .field s x f=>chkOd x x'&&fieldB P s f off n&&fieldOneB P s f false | _=>false
 | .ia sz s j=>match op with | .indexAddr t x ix=>chkOd x s&&chkOd ix j&&slB P t sz | _=>false
 | .iap len sz p j=>match op with | .indexAddr t x ix=>chkOd x p&&chkOd ix j&&(match P.underlying t with | some (.array n e)=>n==len&&sizeB P e sz | _=>false) | _=>false
 | .ixs s j=>match op with | .index t x ix=>chkOd x s&&chkOd ix j&&(match P.underlying t with | some .string=>true | _=>false) | _=>false
 | .ixa len sz one s j=>match op with | .index t x ix=>chkOd x s&&chkOd ix j&&(match P.underlying t with | some (.array n e)=>n==len&&sizeB P e sz&&(if one then oneB P e else aggB P e) | _=>false) | _=>false
 | .sl sz x' lo' hi'=>match op with | .slice t x lo hi none=>chkOd x x'&&chkOp lo lo'&&chkOp hi hi'&&slB P t sz | _=>false
 | .sls x' lo' hi'=>match op with | .slice t x lo hi none=>chkOd x x'&&chkOp lo lo'&&chkOp hi hi'&&(match P.underlying t with | some .string=>true | _=>false) | _=>false
 | .sla n sz p lo' hi'=>match op with | .slice t x lo hi none=>chkOd x p&&chkOp lo lo'&&chkOp hi hi'&&(match P.underlying t with | some (.array n' e)=>n'==n&&sizeB P e sz | _=>false) | _=>false
 | .ext x' j=>match op with | .extract x k=>chkOd x x'&&k==j | _=>false
 | .len x'=>match op with
  | .call { callee:=.builtin .len,args:=as,argTypes:=ts }=>(match as.toList,ts.toList with | [x],[t]=>chkOd x x'&&(match P.underlying t with | some (.slice _)=>true | _=>false) | _,_=>false)
  | _=>false
 | .lens x'=>match op with
  | .call { callee:=.builtin .len,args:=as,argTypes:=ts }=>(match as.toList,ts.toList with | [x],[t]=>chkOd x x'&&(match P.underlying t with | some .string=>true | _=>false) | _,_=>false)
  | _=>false
 | .mm mx _ x' y'=>match op with
  | .call { callee:=.builtin b,args:=as,argTypes:=_ }=>(match as.toList with | [x,y]=>chkOd x x'&&chkOd y y'&&(if mx then(b matches .max)else(b matches .min)) | _=>false)
  | _=>false
 | .mkf f first cap=>match op with
  | .makeFunc f' a b=>(match f',f with | .func x,.func y=>x==y | _,_=>false)&&chkOds a.toList first&&chkOds b.toList cap
  | _=>false
 | .mki t x'=>match op with | .makeInterface t' x=>t'==t&&chkOd x x'&&(match P.underlying t with | some (.interface _)=>false | some _=>true | none=>false) | _=>false
 | .nck x'=>match op with | .nilCheck x=>chkOd x x' | _=>false
 | .kro _ _ _ _ _=>false
 | .kr1 _ _ _ _=>false
 | .bld z parts=>match op with | .build t ps=>zeroB P t z&&structB P t&&partsB P t ps.toList parts | _=>false
 | .ifn neg right x'=>match op with
  | .binOp op t x y _=>(if neg then op==.neq else op==.eql)&&chkOd (if right then x else y) x'&&(match (if right then y else x)with | .const .nilIface=>true | _=>false)&&ifT P t
  | _=>false
 | .rst x'=>match op with | .convert s d x=>chkOd x x'&&(P.underlying s).isSome&&(match P.underlying d with | some .string=>true | _=>false) | _=>false
 | .fnn neg right x'=>match op with
  | .binOp op t x y _=>(if neg then op==.neq else op==.eql)&&chkOd (if right then x else y) x'&&(match (if right then y else x)with | .const .nilFunc=>true | _=>false)&&fnT P t
  | _=>false
 | .tas t ok z x'=>match op with | .typeAssert x _ t' ok'=>t'==t&&ok'==ok&&chkOd x x'&&zeroV P t z&&noIfT P t | _=>false
 | .gix g len sz cs j=>match op with
  | .indexAddr t (.global g') ix=>g'==g&&chkOd ix j&&varB g cs&&(match P.underlying t with | some (.array n e)=>n==len&&sizeB P e sz | _=>false)
  | _=>false
 | .lkp kk ok z m k=>match op with | .lookup t m' k' ok'=>ok'==ok&&chkOd m' m&&chkOd k' k&&mapB P t kk z | _=>false
 | .iav sz s j=>match op with | .indexAddr t x ix=>chkOd x s&&chkOd ix j&&slB P t sz | _=>false
 | .bys x'=>match op with
  | .convert s d x=>chkOd x x'&&(match P.underlying d with | some .string=>true | _=>false)&&(match P.underlying s with | some (.slice e)=>(match P.underlying e with | some (.int .u8)=>true | _=>false) | _=>false)
  | _=>false
 | .lnv x'=>match op with
  | .call { callee:=.builtin .len,args:=as,argTypes:=ts }=>(match as.toList,ts.toList with | [x],[t]=>chkOd x x'&&(match P.underlying t with | some (.slice _)=>true | _=>false) | _,_=>false)
  | _=>false
 | .no=>true
end Go.Ab
namespace Go.Ab
variable [GlobEnv] [FrEnv] [KnEnv]
section
variable {P:Program} {S:St} {e:Env} {a:Act} {w:World}
theorem run_asIntOf (k:IntKind) (n:Int):(asIntOf (.int k n)).run P w=.ok (k,n) w:=rfl
theorem run_sizeOf' {t:TypeId} {n:Nat} (h:sizeB P t n=true):(sizeOf t).run P w=.ok n w:=by
 unfold sizeB at h
 split at h
 · rename_i i hi; simp at h; simp[sizeOf,typeInfo,hi,h]
 · cases h
theorem run_isAgg_one {t:TypeId} (h:oneB P t=true):(isAgg t).run P w=.ok false w:=by
 unfold oneB at h
 split at h
 · cases h
 · cases h
 · rename_i d h1 h2 hd; simp only[isAgg,Sem.run_bind,run_underlying hd,Result.andThen_ok]
   cases d<;>simp_all
 · cases h
theorem run_isAgg_agg {t:TypeId} (h:aggB P t=true):(isAgg t).run P w=.ok true w:=by
 unfold aggB at h
 split at h
 · rename_i hd; simp[isAgg,run_underlying hd]
 · rename_i hd; simp[isAgg,run_underlying hd]
 · cases h
theorem decide_beq (x y:Int):(x==y)=decide (x=y):=rfl
theorem decide_bne (x y:Int):(x != y) = !decide (x=y):=rfl
theorem run_eq_ptr_nil (d:Nat) {t el:TypeId} (h:P.underlying t=some (.pointer el)) (p:Option Addr):(Op.equalIn (d+1) t (.pointer p) (.pointer none)).run P w=.ok p.isNone w:=by
 cases p<;>simp[Op.equalIn,run_underlying h]
theorem run_eq_nil_ptr (d:Nat) {t el:TypeId} (h:P.underlying t=some (.pointer el)) (p:Option Addr):(Op.equalIn (d+1) t (.pointer none) (.pointer p)).run P w=.ok p.isNone w:=by
 simp[Op.equalIn,run_underlying h]
theorem pbin_sound {op:BinOp} {t:TypeId} {ox oy:Operand} {k:BK} {x y:SV} {u v:Value} (hc:chkBin P op t ox oy k=true) (hx:VR S x u) (hy:VR S y v)
   (hn:(k=.pnil true->v=.pointer none)∧(k=.pnil false->u=.pointer none))
   (hs:(pbin op k x y).1) :
   ∃ z,(do eqGuard op t ox oy u v; binOp op t u v:Sem Value).run P w=.ok z w∧VR S (pbin op k x y).2 z:=by
 cases k with
 | i k =>
   cases op<;>simp only[pbin]at hs ⊢ <;> (try exact hs.elim)
   all_goals (
     obtain⟨h1,h2⟩:=hs
     first | (obtain⟨h2,h3⟩:=h2; have e1:=hx.isI h1; have e2:=hy.isI h2; subst e1 e2) | (have e1:=hx.isI h1; have e2:=hy.isI h2; subst e1 e2)
     refine⟨_,?_,.val _⟩
     first
       | (simp[eqGuard,binOp,Op.intArith]; done)
       | (simp[eqGuard,binOp,Op.intDiv,h3]; done)
       | (simp[eqGuard,binOp,Op.intBits,bitsI]; done)
       | (simp[eqGuard,binOp,Op.intCmp,decide_beq,decide_bne]; done)
       | (simp[eqGuard,binOp,Op.intCmp]; rfl))
 | sh k yk =>
   cases op<;>simp only[pbin]at hs ⊢ <;> (try exact hs.elim)
   all_goals (
     obtain⟨h1,h2,h3⟩:=hs
     have e1:=hx.isI h1; have e2:=hy.isI h2; subst e1 e2
     refine⟨_,?_,.val _⟩
     have h4:¬ y.int<0:=by omega
     simp[eqGuard,binOp,Op.shift,h4])
 | s =>
   cases op<;>simp only[pbin]at hs ⊢ <;> (try exact hs.elim)
   all_goals (
     obtain⟨h1,h2⟩:=hs
     first | (obtain⟨h2,h3⟩:=h2; have e1:=hx.isS h1; have e2:=hy.isS h2; subst e1 e2) | (have e1:=hx.isS h1; have e2:=hy.isS h2; subst e1 e2)
     refine⟨_,?_,.val _⟩)
   case add=>simp[eqGuard,binOp,Op.stringOp,IntKind.max,IntKind.signed,IntKind.bits]; omega
   all_goals (simp[eqGuard,binOp,Op.stringOp,ByteArray.toList_eq,Bool.beq_eq_decide_eq])
 | b =>
   simp only[chkBin,Bool.and_eq_true]at hc
   have hb:P.underlying t=some .bool:=by
     have:=hc.1; unfold boolTB at this; split at this
     · assumption
     · cases this
   cases op<;>simp only[pbin]at hs ⊢ <;> (try exact hs.elim)
   all_goals (
     obtain⟨h1,h2⟩:=hs
     have e1:=hx.isB h1; have e2:=hy.isB h2; subst e1 e2
     refine⟨_,?_,.val _⟩
     simp[eqGuard,binOp,run_equal_bool w _ _ _ hb,bne])
 | pnil right =>
   simp only[chkBin,Bool.and_eq_true]at hc
   obtain⟨⟨hp,hop⟩,_⟩:=hc
   obtain⟨el,hel⟩:∃ el,P.underlying t=some (.pointer el):=by
     unfold ptrTB at hp; split at hp
     · exact⟨_,by assumption⟩
     · cases hp
   have key:∀ (p:Option Addr),(Op.equal t (.pointer p) (.pointer none)).run P w=.ok p.isNone w∧(Op.equal t (.pointer none) (.pointer p)).run P w=.ok p.isNone w :=
     fun p=>⟨run_eq_ptr_nil 9999 hel p,run_eq_nil_ptr 9999 hel p⟩
   have main:∀ (z:SV) (zv:Value),VR S z zv->(∃ s k,z.ug=.ptr s k)∨z.ug=.val (.pointer none)->z.vd=true →
       ∃ p:Option Addr,zv=.pointer p∧((∃ s k,z.ug=.ptr s k)->p.isNone=false)∧(z.ug=.val (.pointer none)->p.isNone=true):=by
     intro z zv hz hsh hvd
     have h1:=hz.ug hvd
     rcases hsh with ⟨s,k,hsk⟩ | hsk
     · rw[hsk]at h1 ⊢
       cases h1<;>exact⟨_,rfl,(fun _=>rfl),(fun h=>by cases h)⟩
     · rw[hsk]at h1 ⊢
       cases h1; exact⟨none,rfl,(fun h=>by obtain⟨_,_,h⟩:=h; cases h),(fun _=>rfl)⟩
   simp only[pbin]at hs ⊢
   cases right with
   | true =>
     obtain rfl:=hn.1 rfl
     simp only[if_true]at hs ⊢
     split at hs
     all_goals first
       | exact hs.elim
       | (rename_i hz
          obtain⟨p,rfl,hp1,hp2⟩:=main x u hx (by first | exact .inl ⟨_,_,hz⟩ | exact .inr hz) hs
          simp only[]
          refine⟨_,?_,.val _⟩
          first
            | (have hp3:p.isNone=false:=hp1 ⟨_,_,hz⟩; simp[eqGuard,binOp,(key p).1,hp3]; done)
            | (have hp3:p.isNone=true:=hp2 hz; simp[eqGuard,binOp,(key p).1,hp3]))
   | false =>
     obtain rfl:=hn.2 rfl
     simp only[Bool.false_eq_true,if_false]at hs ⊢
     split at hs
     all_goals first
       | exact hs.elim
       | (rename_i hz
          obtain⟨p,rfl,hp1,hp2⟩:=main y v hy (by first | exact .inl ⟨_,_,hz⟩ | exact .inr hz) hs
          simp only[]
          refine⟨_,?_,.val _⟩
          first
            | (have hp3:p.isNone=false:=hp1 ⟨_,_,hz⟩; simp[eqGuard,binOp,(key p).2,hp3]; done)
            | (have hp3:p.isNone=true:=hp2 hz; simp[eqGuard,binOp,(key p).2,hp3]))
end
end Go.Ab
namespace Go.Ab
variable [GlobEnv] [FrEnv] [KnEnv]
section
variable {P:Program} {S:St} {e:Env} {a:Act}
theorem run_ld1 (hS:Sim S) {t:TypeId} {p:SV} {v:Value} (hp:VR S p v) (ht:oneB P t=true) (h:0<(p.at S.H).length) :
 ∃ u,(Instr.loadAt t v).run P S.w=.ok u S.w∧VR S ((p.at S.H).headD .any) u:=by
 have h0:(p.at S.H)[0]? = some (p.at S.H)[0]:=List.getElem?_eq_getElem h
 obtain⟨ad,u,rfl,hcell,hvr⟩:=hp.at hS h0
 have hcell':S.w.cell? ad=some u:=by simpa[Addr.add]using hcell
 refine⟨u,?_,?_⟩
 · simp[Instr.loadAt,Instr.sureAddr,loadVar,run_isAgg_one ht,hcell']
 · rw[List.headD_eq_head?_getD,List.head?_eq_getElem?,h0]; exact hvr
theorem run_ldn (hS:Sim S) {t:TypeId} {p:SV} {v:Value} {n:Nat} (hp:VR S p v) (ht:aggB P t=true) (hn:sizeB P t n=true) (h:n≤(p.at S.H).length) (h0:0<n) :
 ∃ u,(Instr.loadAt t v).run P S.w=.ok u S.w∧VR S (.agg ((p.at S.H).take n)) u:=by
 have hc:∀ j,j<n->∃ c,(p.at S.H)[j]? = some c:=fun j hj=>⟨_,List.getElem?_eq_getElem (by omega)⟩
 obtain⟨c0,hc0⟩:=hc 0 h0
 obtain⟨ad,u0,rfl,_,_⟩:=hp.at hS hc0
 have hall:∀ j,j<n->∃ u,S.w.cell? (ad.add j)=some u∧∀ c,(p.at S.H)[j]? = some c->VR S c u:=by
  intro j hj
  obtain⟨c,hcj⟩:=hc j hj
  obtain⟨ad',u,he,h1,h2⟩:=hp.at hS hcj
  cases he
  exact⟨u,h1,fun c' hc'=>by rw[hcj]at hc'; cases hc'; exact h2⟩
 obtain⟨f,hf⟩:∃ f:Nat->Value,∀ j,j<n->S.w.cell? (ad.add j)=some (f j)∧∀ c,(p.at S.H)[j]? = some c->VR S c (f j):=by
  refine⟨fun j=>(S.w.cell? (ad.add j)).getD undef,fun j hj => ?_⟩
  obtain⟨u,h1,h2⟩:=hall j hj
  simp only[h1,Option.getD_some]
  exact⟨trivial,h2⟩
 have hl:=run_loadCells_list (P:=P) S.w ad ((List.range n).map f) (by
  intro j v hj
  rw[List.getElem?_map]at hj
  by_cases hjn:j<n
  · rw[List.getElem?_range hjn]at hj; simp at hj; subst hj; exact(hf j hjn).1
  · rw[List.getElem?_eq_none (by simp; omega)]at hj; cases hj)
 refine⟨.agg ((List.range n).map f).toArray,?_,?_⟩
 · simp only[Instr.loadAt,Instr.sureAddr,loadVar,Sem.run_bind,Sem.run_pure,Result.andThen_ok,run_isAgg_agg ht,if_true,run_sizeOf' hn]
   have:((List.range n).map f).length=n:=by simp
   rw[this]at hl
   simp[hl]
 · refine .agg _ _ (by simp; omega) ?_
   intro j s u h1 h2
   rw[List.getElem?_take]at h1
   by_cases hjn:j<n
   · rw[if_pos hjn]at h1
     rw[List.getElem?_map,List.getElem?_range hjn]at h2
     simp at h2; subst h2
     exact(hf j hjn).2 s h1
   · rw[if_neg hjn]at h1; cases h1
theorem ptr_add {s:SV} {k off:Nat} {v:Value} (h:VR S (.ptr s k) v):∃ ad,v=.pointer (some ad)∧VR S (.ptr s (k+off)) (.pointer (some (ad.add off))):=by
 cases h with
 | ptrI cells len k a us hl hi h =>
  refine⟨_,rfl,?_⟩
  rw[add_add]
  exact .ptrI cells len _ a us hl hi h
 | ptrO i o1 len sz ver k a o ho hv h =>
  refine⟨a,rfl,.ptrO i o1 len sz ver _ _ o ho hv fun e => ?_⟩
  obtain⟨b,h1,rfl⟩:=h e
  refine⟨b,h1,?_⟩
  unfold Addr.add; split
  · subst_vars; simp
  · simp[Nat.add_assoc]
theorem run_fieldAt {s:TypeId} {f off:Nat} {ad:Addr}
 (h:(match P.underlying s with | some (.struct fs)=>(match fs[f]? with | some fd=>fd.offset==off&&(match P.info? fd.type with | some i=>i.size != 0 | none=>false) | none=>false) | _=>false)=true) (w:World) :
 (Instr.fieldAt s (.pointer (some ad)) f).run P w=.ok (.pointer (some (ad.add off))) w:=by
 split at h
 · rename_i fs hu
   split at h
   · rename_i fd hf
     split at h
     · rename_i i hi
       simp at h
       simp[Instr.fieldAt,run_underlying hu,hf,Instr.sureAddr,fieldPlace,sizeOf,typeInfo,hi,h]
     · simp at h
   · cases h
 · cases h
theorem fieldB_spec {s:TypeId} {f off n:Nat} (h:fieldB P s f off n=true):∃ fs fd,P.underlying s=some (.struct fs)∧fs[f]? = some fd∧fd.offset=off∧sizeB P fd.type n=true:=by
 unfold fieldB at h
 split at h
 · rename_i fs hu
   split at h
   · rename_i fd hf; simp at h; exact⟨fs,fd,hu,hf,h.1,h.2⟩
   · cases h
 · cases h
theorem fieldOneB_spec {s:TypeId} {f:Nat} {one:Bool} {fs:Array Field} {fd:Field} (hu:P.underlying s=some (.struct fs)) (hf:fs[f]? = some fd) (h:fieldOneB P s f one=true) :
 (if one then oneB P fd.type else aggB P fd.type)=true:=by
 unfold fieldOneB at h
 simp only[hu,hf]at h; exact h
theorem run_part_one {t:TypeId} {cs:Array Value} {off:Nat} {u:Value} (ht:oneB P t=true) (h:cs[off]? = some u) (w:World):(part t cs off).run P w=.ok u w:=by
 simp[part,run_isAgg_one ht,h]
theorem run_part_agg {t:TypeId} {cs:Array Value} {off n:Nat} (ht:aggB P t=true) (hn:sizeB P t n=true) (w:World):(part t cs off).run P w=.ok (.agg (cs.extract off (off+n))) w:=by
 simp[part,run_isAgg_agg ht,run_sizeOf' hn]
theorem VR.agg_inv {l:List SV} {v:Value} (h:VR S (.agg l) v):∃ us,v=.agg us.toArray∧VRs S l us:=by
 cases h with
 | agg l us hl h=>exact⟨us,rfl,hl,h⟩
theorem VR.tup_inv {l:List SV} {v:Value} (h:VR S (.tup l) v):∃ us,v=.tuple us.toArray∧VRs S l us:=by
 cases h with
 | tup l us hl h=>exact⟨us,rfl,hl,h⟩
theorem VR.of_agg {l:List SV} {us:List Value} (h:VRs S l us):VR S (.agg l) (.agg us.toArray):=.agg l us h.1 h.2
theorem VR.of_tup {l:List SV} {us:List Value} (h:VRs S l us):VR S (.tup l) (.tuple us.toArray):=.tup l us h.1 h.2
theorem VRs.getD {l:List SV} {us:List Value} (h:VRs S l us) {j:Nat} (hj:j<l.length):∃ u,us[j]? = some u∧VR S (l.getD j .any) u:=by
 obtain⟨u,h1,h2⟩:=h.get (List.getElem?_eq_getElem hj)
 refine⟨u,h1,?_⟩
 rw[List.getD_eq_getElem?_getD,List.getElem?_eq_getElem hj]; exact h2
theorem extract_toArray (us:List Value) (i j:Nat):us.toArray.extract i j=((us.drop i).take (j-i)).toArray:=by simp
theorem run_field {s:TypeId} {f off n:Nat} {one:Bool} {x:SV} {v:Value} {l:List SV} (hx:VR S x v) (hvd:x.vd=true) (hl:x.ug=.agg l) (h1:fieldB P s f off n=true) (h2:fieldOneB P s f one=true) (w:World) :
 (one=true->off<l.length->∃ u,(Instr.field s v f).run P w=.ok u w∧VR S (l.getD off .any) u) ∧
 (one=false->∃ u,(Instr.field s v f).run P w=.ok u w∧VR S (.agg ((l.drop off).take n)) u):=by
 obtain⟨fs,fd,hu,hf,ho,hn⟩:=fieldB_spec h1
 have h3:=fieldOneB_spec hu hf h2
 have hx':=hx.ug hvd
 rw[hl]at hx'
 obtain⟨us,rfl,hus⟩:=hx'.agg_inv
 constructor
 · intro hone hlt
   subst hone
   obtain⟨u,hu1,hu2⟩:=hus.getD hlt
   refine⟨u,?_,hu2⟩
   simp only[Instr.field,Sem.run_bind,run_underlying hu,Result.andThen_ok,hf,asAgg,Sem.run_pure]
   exact run_part_one (by simpa using h3) (by rw[ho]; simpa using hu1) w
 · intro hone
   subst hone
   refine⟨_,?_,VR.of_agg ((hus.drop off).take n)⟩
   simp only[Instr.field,Sem.run_bind,run_underlying hu,Result.andThen_ok,hf,asAgg,Sem.run_pure]
   rw[run_part_agg (by simpa using h3) hn w,ho,extract_toArray]
   congr 3; congr 1; congr 1; omega
theorem slB_spec {t:TypeId} {sz:Nat} (h:slB P t sz=true):∃ el,P.underlying t=some (.slice el)∧sizeB P el sz=true:=by
 unfold slB at h
 split at h
 · exact⟨_,by assumption,h⟩
 · cases h
theorem run_indexAt {t:TypeId} {sz:Nat} {s:SV} {v:Value} (hs:VR S s v) (hsl:s.isSl=true) (ht:slB P t sz=true) {k:IntKind} {j:Int} (h0:0≤j) (h1:j<s.slen) :
 ∃ u,(Instr.indexAt t v (.int k j)).run P S.w=.ok u S.w∧VR S (.ptr s (j.toNat*sz)) u:=by
 obtain⟨el,hu,hsz⟩:=slB_spec ht
 have run:∀ (ad:Addr) (len cap:Nat),j<len->(Instr.indexAt t (.slice (some ad) len cap) (.int k j)).run P S.w=.ok (.pointer (some (ad.add (j.toNat*sz)))) S.w:=by
  intro ad len cap hlt
  simp[Instr.indexAt,run_asIntOf,run_underlying hu,h0,hlt,run_sizeOf' hsz]
 cases hs with
 | slc cells len ad cap us hc hl hi h=>exact⟨_,run ad len cap h1,.ptrI cells len _ ad us hl hi h⟩
 | nilslc=>simp[SV.slen]at h1; omega
 | own i off len sz' ver ad cap o ho hv hc hz h =>
  simp only[SV.slen]at h1
  cases ad with
  | none=>have:=hz rfl; omega
  | some ad =>
   refine⟨_,run ad len cap h1,.ptrO i off len sz' ver _ _ o ho hv fun e => ?_⟩
   have h2:=h e
   unfold St.OwnAt at h2
   cases hρ:S.ρ i with
   | none=>rw[hρ]at h2; obtain⟨h2,_⟩:=h2; omega
   | some b =>
    rw[hρ]at h2
    rcases h2 with h2 | ⟨h2,_⟩
    · omega
    · cases h2
      refine⟨b,rfl,?_⟩
      unfold Addr.add; split
      · rename_i h3; simp
      · rfl
 | val v=>cases v<;>simp[SV.isSl]at hsl<;>simp[SV.slen]at h1<;>omega
 | _=>simp[SV.isSl]at hsl
end
end Go.Ab
namespace Go.Ab
variable [GlobEnv] [FrEnv] [KnEnv]
section
variable {P:Program} {S:St} {e:Env} {a:Act}
theorem run_iap {t el:TypeId} {n sz:Nat} (hu:P.underlying t=some (.array n el)) (hsz:sizeB P el sz=true) (ad:Addr) {k:IntKind} {j:Int} (h0:0≤j) (h1:j<n) (w:World) :
 (Instr.indexAt t (.pointer (some ad)) (.int k j)).run P w=.ok (.pointer (some (ad.add (j.toNat*sz)))) w:=by
 simp[Instr.indexAt,run_asIntOf,run_underlying hu,h0,h1,run_sizeOf' hsz,Instr.sureAddr]
theorem run_ixs {t:TypeId} (hu:P.underlying t=some .string) (s:ByteArray) {k:IntKind} {j:Int} (h0:0≤j) (h1:j<s.size) (w:World) :
 (Instr.index t (.string s) (.int k j)).run P w=.ok (.int .u8 (s.data.toList.getD j.toNat 0).toNat) w:=by
 have hlt:j.toNat<s.size:=by omega
 have hlt':j.toNat<s.data.toList.length:=by simpa using hlt
 have:s[j.toNat]? = some s[j.toNat]:=getElem?_pos s j.toNat hlt
 simp only[Instr.index,Sem.run_bind,run_asIntOf,run_underlying hu,Result.andThen_ok,h0,if_true,this]
 rw[List.getD_eq_getElem?_getD,List.getElem?_eq_getElem hlt']
 rfl
theorem run_ixa {t el:TypeId} {n sz:Nat} {one:Bool} (hu:P.underlying t=some (.array n el)) (hsz:sizeB P el sz=true) (hone:(if one then oneB P el else aggB P el)=true)
 {l:List SV} {us:List Value} (hv:VRs S l us) (hl:l.length=n*sz) (h1z:one=true->sz=1) {k:IntKind} {j:Int} (h0:0≤j) (h1:j<n) :
 ∃ u,(Instr.index t (.agg us.toArray) (.int k j)).run P S.w=.ok u S.w∧VR S (if one then l.getD j.toNat .any else .agg ((l.drop (j.toNat*sz)).take sz)) u:=by
 have hj:j.toNat<n:=by omega
 simp only[Instr.index,Sem.run_bind,run_asIntOf,run_underlying hu,Result.andThen_ok,h0,h1,and_self,if_true,run_sizeOf' hsz]
 cases one with
 | true =>
  obtain rfl:=h1z rfl
  obtain⟨u,hu1,hu2⟩:=hv.getD (j:=j.toNat) (by rw[hl]; omega)
  refine⟨u,?_,by simpa using hu2⟩
  exact run_part_one (by simpa using hone) (by simpa using hu1) _
 | false =>
  refine⟨_,run_part_agg (by simpa using hone) hsz _,?_⟩
  rw[extract_toArray]
  simp only[Bool.false_eq_true,if_false]
  have:j.toNat*sz+sz-j.toNat*sz=sz:=by omega
  rw[this]
  exact VR.of_agg ((hv.drop _).take _)
theorem chkOp_spec {x:Option Operand} {y:Option Od} (h:chkOp x y=true) (he:EnvR S e a.tmps) :
 (x=none∧y=none)∨∃ x' y',x=some x'∧y=some y'∧VR S (e.ev y') (a.eval x'):=by
 unfold chkOp at h
 split at h
 · exact .inl ⟨rfl,rfl⟩
 · exact .inr ⟨_,_,rfl,rfl,chkOd_spec h he⟩
 · cases h
theorem run_bounds {isS:Bool} {len cap:Nat} {lo hi:Option Operand} {lo' hi':Option Od} (hlo:chkOp lo lo'=true) (hhi:chkOp hi hi'=true) (he:EnvR S e a.tmps)
 (b1:bdOf (lo'.map e.ev)) (b2:bdOf (hi'.map e.ev)) (h1:loOf (lo'.map e.ev)≤hiOf len (hi'.map e.ev)) (h2:hiOf len (hi'.map e.ev)≤len) (hc:len≤cap) (w:World) :
 (Instr.sliceBounds isS len cap (lo.map a.eval) (hi.map a.eval) none).run P w=.ok (loOf (lo'.map e.ev),hiOf len (hi'.map e.ev),cap) w:=by
 rcases chkOp_spec hlo he with ⟨rfl,rfl⟩ | ⟨x,y,rfl,rfl,hv⟩<;>rcases chkOp_spec hhi he with ⟨rfl,rfl⟩ | ⟨x',y',rfl,rfl,hv'⟩
 · simp[Instr.sliceBounds,loOf,hiOf]
 · obtain⟨k,hk⟩:=hv'.isN b2.1
   have b3:=b2.2
   simp only[Option.map_some,hiOf,loOf]at h1 h2 ⊢
   have:(e.ev y').int≤cap:=by omega
   simp[Instr.sliceBounds,Instr.sliceBound,hk,run_asIntOf,this,b3]
 · obtain⟨k,hk⟩:=hv.isN b1.1
   have b3:=b1.2
   simp only[Option.map_some,hiOf,loOf,Option.map_none]at h1 h2 ⊢
   have:(e.ev y).int≤len:=by omega
   simp[Instr.sliceBounds,Instr.sliceBound,hk,run_asIntOf,this,b3]
 · obtain⟨k,hk⟩:=hv.isN b1.1
   have b3:=b1.2
   obtain⟨k',hk'⟩:=hv'.isN b2.1
   have b4:=b2.2
   simp only[Option.map_some,hiOf,loOf]at h1 h2 ⊢
   have h5:(e.ev y').int≤cap:=by omega
   have h6:(e.ev y).int≤(e.ev y').int:=by omega
   have h7:(e.ev y).int≤max (e.ev y').int 0:=by omega
   simp[Instr.sliceBounds,Instr.sliceBound,hk,hk',run_asIntOf,h5,h7,b3,b4]
theorem run_sla {t el:TypeId} {n sz:Nat} (hS:Sim S) (hu:P.underlying t=some (.array n el)) (hsz:sizeB P el sz=true) {x:SV} {v:Value} (hx:VR S x v)
   {lo hi:Option Operand} {lo' hi':Option Od} (hlo:chkOp lo lo'=true) (hhi:chkOp hi hi'=true) (he:EnvR S e a.tmps)
   (hn:n*sz≤(x.at S.H).length) (h0:0<n*sz) (b1:bdOf (lo'.map e.ev)) (b2:bdOf (hi'.map e.ev)) (h1:loOf (lo'.map e.ev)≤hiOf n (hi'.map e.ev)) (h2:hiOf n (hi'.map e.ev)≤n) :
   ∃ u,(Instr.sliceAt t v (lo.map a.eval) (hi.map a.eval) none).run P S.w=.ok u S.w∧VR S (x.cutA sz (loOf (lo'.map e.ev)) (hiOf n (hi'.map e.ev))) u:=by
 have run:∀ (ad:Addr),(Instr.sliceAt t (.pointer (some ad)) (lo.map a.eval) (hi.map a.eval) none).run P S.w =
       .ok (.slice (some (if n=loOf (lo'.map e.ev)then ad else ad.add (loOf (lo'.map e.ev)*sz))) (hiOf n (hi'.map e.ev)-loOf (lo'.map e.ev)) (n-loOf (lo'.map e.ev))) S.w:=by
   intro ad
   have hb:=run_bounds (P:=P) (isS:=false) hlo hhi he b1 b2 h1 h2 (Nat.le_refl _) S.w
   simp only[Instr.sliceAt,Instr.sureAddr,Sem.run_bind,run_underlying hu,Result.andThen_ok,hb,run_sizeOf' hsz,Sem.run_pure]
 revert run h1 h2
 generalize loOf (lo'.map e.ev)=l
 generalize hiOf n (hi'.map e.ev)=h
 intro h1 h2 run
 cases hx with
 | ptrI cells len k ad us hl hi2 hh =>
   simp only[SV.at,SV.row,List.length_drop]at hn
   simp only[SV.cutA]
   refine⟨_,run _,?_⟩
   have hv:VRs S cells us:=⟨hl,hh⟩
   have hv':=(hv.drop (k+l*sz)).take ((h-l)*sz)
   by_cases hcap:n=l
   · rw[if_pos hcap]
     have e0:h-l=0:=by omega
     rw[e0]
     simp only[Nat.zero_mul,List.take_zero]
     exact .slc [] 0 _ _ [] (by omega) rfl ⟨fun j u hj=>by simp at hj,fun hne=>absurd rfl hne,imm_part0⟩ fun j s u hj=>by simp at hj
   · rw[if_neg hcap]
     refine .slc _ _ _ _ _ (by omega) hv'.1 ⟨?_,?_,hi2.part (by simp[add_block]) fun u hu=>List.mem_of_mem_drop (List.mem_of_mem_take hu)⟩ hv'.2
     · intro j u hj
       rw[List.getElem?_take]at hj
       by_cases hjl:j<(h-l)*sz
       · rw[if_pos hjl,List.getElem?_drop]at hj
         rw[add_add,add_add]
         exact hi2.1 _ _ (by rw[←Nat.add_assoc]; exact hj)
       · rw[if_neg hjl]at hj; cases hj
     · intro hne
       rw[add_block,add_block]
       apply hi2.2.1
       intro e0; subst e0; simp at hne
 | ptrO i off len sz' ver k ad o ho hv hat =>
   simp only[SV.at,SV.row,List.length_drop]at hn
   have hk0:off+k<(objCells S.H i ver).length:=by omega
   obtain⟨ob,b,us0,rest,u,ho',hl,hver,hρ,hh,hvr,_⟩:=hS.read (List.getElem?_eq_getElem hk0)
   rw[ho]at ho'; cases ho'
   obtain⟨b',hb',had⟩:=hat hver
   rw[hρ]at hb'; cases hb'
   subst had
   have hob:objCells S.H i ver=o.cells:=by unfold objCells; rw[ho]; simp[hl,hver]
   rw[hob]at hn
   simp only[SV.cutA]
   refine⟨_,run _,.own i _ _ _ ver _ _ o ho hv (by omega) (fun hn=>by cases hn) fun _ => ?_⟩
   unfold St.OwnAt
   rw[hρ]
   by_cases hcap:n=l
   · exact .inl (by omega)
   · rw[if_neg hcap]
     right
     have hadd:(⟨b,off+k,none⟩:Addr).add (l*sz)=⟨b,off+k+l*sz,none⟩:=by
       unfold Addr.add; split
       · simp_all
       · rfl
     refine⟨by rw[hadd],o.ty,(us0++rest).length,?_,?_⟩
     · unfold World.shape?
       rw[hh]; simp
     · have e1:us0.length=o.cells.length:=hvr.1
       have e2:l*sz+(n-l)*sz=n*sz:=by rw[←Nat.add_mul]; congr 1; omega
       simp only[List.length_append]
       omega
 | _=>simp[SV.at]at hn; omega
theorem run_sl {t el:TypeId} {sz:Nat} (hu:P.underlying t=some (.slice el)) (hsz:sizeB P el sz=true) {x:SV} {v:Value} (hx:VR S x v) (hsl:x.isSl=true)
 {lo hi:Option Operand} {lo' hi':Option Od} (hlo:chkOp lo lo'=true) (hhi:chkOp hi hi'=true) (he:EnvR S e a.tmps)
 (b1:bdOf (lo'.map e.ev)) (b2:bdOf (hi'.map e.ev)) (h1:loOf (lo'.map e.ev)≤hiOf x.slen (hi'.map e.ev)) (h2:hiOf x.slen (hi'.map e.ev)≤x.slen)
 (hown:x.szIs sz=true) :
 ∃ u,(Instr.sliceAt t v (lo.map a.eval) (hi.map a.eval) none).run P S.w=.ok u S.w∧VR S (x.cut sz (loOf (lo'.map e.ev)) (hiOf x.slen (hi'.map e.ev))) u:=by
 have run:∀ (ad:Option Addr) (cap:Nat),x.slen≤cap →
  (Instr.sliceAt t (.slice ad x.slen cap) (lo.map a.eval) (hi.map a.eval) none).run P S.w =
   .ok (.slice (if cap=loOf (lo'.map e.ev)then ad else ad.map (·.add (loOf (lo'.map e.ev)*sz))) (hiOf x.slen (hi'.map e.ev)-loOf (lo'.map e.ev)) (cap-loOf (lo'.map e.ev))) S.w:=by
  intro ad cap hc
  have hb:=run_bounds (P:=P) (isS:=true) hlo hhi he b1 b2 h1 h2 hc S.w
  simp only[Instr.sliceAt,Instr.slice,Sem.run_bind,run_underlying hu,Result.andThen_ok,hb,run_sizeOf' hsz,Sem.run_pure]
 revert run h1 h2
 generalize loOf (lo'.map e.ev)=l
 generalize hiOf x.slen (hi'.map e.ev)=h
 intro h1 h2 run
 cases hx with
 | slc cells len ad cap us hc hl hi2 hh =>
  simp only[SV.slen]at h1 h2 run
  simp only[SV.cut]
  refine⟨_,run (some ad) cap hc,?_⟩
  by_cases hcap:cap=l
  · rw[if_pos hcap]
    have e0:h-l=0:=by omega
    rw[e0]
    simp only[Nat.zero_mul,List.take_zero]
    exact .slc [] 0 ad _ [] (by omega) rfl ⟨fun j u hj=>by simp at hj,fun hne=>absurd rfl hne,imm_part0⟩ fun j s u hj=>by simp at hj
  · rw[if_neg hcap]
    have hv:VRs S cells us:=⟨hl,hh⟩
    have hv':=(hv.drop (l*sz)).take ((h-l)*sz)
    refine .slc _ _ _ _ _ (by omega) hv'.1 ⟨?_,?_,hi2.part (by simp[add_block]) fun u hu=>List.mem_of_mem_drop (List.mem_of_mem_take hu)⟩ hv'.2
    · intro j u hj
      rw[List.getElem?_take]at hj
      by_cases hjl:j<(h-l)*sz
      · rw[if_pos hjl,List.getElem?_drop]at hj
        rw[add_add]; exact hi2.1 _ _ hj
      · rw[if_neg hjl]at hj; cases hj
    · intro hne
      rw[add_block]
      apply hi2.2.1
      intro e0; subst e0; simp at hne
 | nilslc =>
  simp only[SV.slen]at h1 h2 run
  simp only[SV.cut]
  have hh:h=0:=by omega
  have hl:l=0:=by omega
  subst hh hl
  refine⟨_,run none 0 (Nat.le_refl _),?_⟩
  simpa using VR.nilslc
 | own i off len sz' ver ad cap o ho hv hc hz hat =>
  obtain rfl:sz'=sz:=by simpa[SV.szIs]using hown
  simp only[SV.slen]at h1 h2 run
  simp only[SV.cut]
  refine⟨_,run ad cap hc,.own i _ _ _ ver _ _ o ho hv (by omega) ?_ fun hver => ?_⟩
  · intro hn
    have:ad=none:=by
     split at hn
     · exact hn
     · cases ad with
       | none=>rfl
       | some x=>simp at hn
    have:=hz this; omega
  · have h3:=hat hver
    unfold St.OwnAt at *
    cases hρ:S.ρ i with
    | none =>
     rw[hρ]at h3
     obtain⟨rfl,rfl⟩:=h3
     simp; omega
    | some b =>
     rw[hρ]at h3
     rcases h3 with h3 | ⟨h3,T,n,h4,h5⟩
     · left; omega
     · by_cases hcap:cap=l
       · left; omega
       · right
         rw[if_neg hcap,h3]
         refine⟨?_,T,n,h4,?_⟩
         · simp only[Option.map_some,Option.some.injEq]
           unfold Addr.add; split
           · rename_i h6; simp
           · rfl
         · have e1:(cap-l)*sz'+l*sz'=cap*sz':=by rw[←Nat.add_mul]; congr 1; omega
           omega
 | val v =>
  have:v=.slice none 0 0:=by cases v<;>simp[SV.isSl]at hsl; rename_i a b c; revert hsl; cases a<;>cases b<;>cases c<;>simp
  subst this
  simp only[SV.slen]at h1 h2 run
  simp only[SV.cut]
  have hh:h=0:=by omega
  have hl:l=0:=by omega
  subst hh hl
  refine⟨_,run none 0 (Nat.le_refl _),?_⟩
  simpa using VR.nilslc
 | _=>simp[SV.isSl]at hsl
theorem foldl_set (cs:List Value):∀ (j:Nat) (cells:List Value) (off:Nat),off+j+cs.length≤cells.length →
 ((cs.zipIdx j).foldl (fun(acc:Array Value) (x:Value×Nat)=>acc.setIfInBounds (off+x.2) x.1) cells.toArray) =
  (cells.take (off+j)++cs++cells.drop (off+j+cs.length)).toArray:=by
 induction cs with
 | nil=>intro j cells off h; simp
 | cons c r ih =>
  intro j cells off h
  simp only[List.zipIdx_cons,List.foldl_cons,List.setIfInBounds_toArray]
  rw[ih (j+1) _ off (by simp at *; omega)]
  congr 1
  apply List.ext_getElem?
  intro k
  simp only[List.getElem?_append,List.length_append,List.length_take,List.length_set,List.getElem?_take,List.getElem?_drop,List.getElem?_set,List.length_cons]
  simp only[List.length_cons]at h
  rcases Nat.lt_or_ge k (off+j)with h1 | h1
  · rw[if_pos (by omega),if_pos (by omega),if_pos (by omega),if_neg (by omega),if_pos (by omega),if_pos (by omega),if_pos (by omega)]
  · rcases Nat.lt_or_ge k (off+j+1)with h2 | h2
    · have:k=off+j:=by omega
      subst this
      rw[if_pos (by omega),if_pos (by omega),if_pos (by omega),if_pos (by omega),if_pos (by omega),if_pos (by omega),if_neg (by omega)]
      have:off+j-min (off+j) cells.length=0:=by omega
      simp[this]
    · rcases Nat.lt_or_ge k (off+j+1+r.length)with h3 | h3
      · rw[if_pos (by omega),if_neg (by omega),if_pos (by omega),if_neg (by omega)]
        have e1:k-min (off+(j+1)) cells.length=k-(off+j+1):=by omega
        have e2:k-min (off+j) cells.length=(k-(off+j+1))+1:=by omega
        rw[e1,e2]; simp
      · rw[if_neg (by omega),if_neg (by omega),if_neg (by omega)]
        congr 1; omega
theorem fill_sound (place:Nat->Option (Nat×Nat)):∀ (ps:List (Nat×Value)) (qs:List (Nat×SV)) (z:List SV) (zs:List Value),VRs S z zs->ps.length=qs.length →
 (∀ (j:Nat) (p:Nat×Value) (q:Nat×SV),ps[j]? = some p->qs[j]? = some q->∃ size,place p.1=some (q.1,size)∧partOk size q.2∧q.1+size≤z.length∧VR S q.2 p.2) →
 ∃ cells,Instr.fill place zs.toArray ps=some cells.toArray∧VRs S (fillS z qs) cells
 | [],[],z,zs,hz,_,_=>⟨zs,rfl,hz⟩
 | [],q::qs,z,zs,hz,hl,_=>by simp at hl
 | p::ps,[],z,zs,hz,hl,_=>by simp at hl
 | (f,v)::ps,(off,s)::qs,z,zs,hz,hl,h=>by
  obtain⟨size,h1,h2,h3,h4⟩:=h 0 (f,v) (off,s) rfl rfl
  have key:∃ cs:List SV,∃ us:List Value,s.ug.flat=cs∧v.cells=us.toArray∧VRs S cs us∧cs.length=size:=by
   unfold partOk at h2
   simp only at h2
   split at h2
   · rename_i l hl
     have h5:=h4.ug h2.2
     rw[hl]at h5
     obtain⟨us,he,hus⟩:=h5.agg_inv
     simp only at he
     exact⟨l,us,by rw[hl]; rfl,by rw[he]; rfl,hus,h2.1⟩
   · rename_i x hx
     have h5:=h4.ug h2.2.2
     refine⟨[s.ug],[v],?_,?_,VRs.cons h5 (VRs.nil S),by simp[h2.1]⟩
     · unfold SV.flat; split
       · rename_i l hl; exact absurd hl (hx l)
       · rfl
     · have:=h5.oneCell h2.2.1
       simp only at this
       cases v<;>simp_all [Value.cells,Value.oneCell']
  obtain⟨cs,us,e1,e2,hus,hsz⟩:=key
  have hlen:us.length=size:=by rw[hus.1,hsz]
  simp only[Instr.fill,h1,fillS]
  have hno:¬ (v.cells.size≠size∨off+v.cells.size>zs.toArray.size):=by
   rw[e2]; simp[hlen,hz.1]; omega
  have hb:(decide (v.cells.size≠size)||decide (off+v.cells.size>zs.toArray.size))=false:=by
   simp only[Bool.or_eq_false_iff,decide_eq_false_iff_not]
   exact⟨fun h=>hno (.inl h),fun h=>hno (.inr h)⟩
  have hfold:=foldl_set us 0 zs off (by rw[hlen,hz.1]; omega)
  have e3:v.cells.zipIdx.foldl (fun cs x=>cs.setIfInBounds (off+x.2) x.1) zs.toArray=(zs.take (off+0)++us++zs.drop (off+0+us.length)).toArray:=by
   rw[e2,<- hfold,<- Array.foldl_toList]
   simp
  rw[if_neg (by simpa using hno)]
  have ih:=fill_sound place ps qs (z.take off++cs++z.drop (off+cs.length)) (zs.take off++us++zs.drop (off+us.length))
   (by
    have:us.length=cs.length:=hus.1
    rw[this]
    exact((hz.take off).append hus).append (hz.drop _)) (by simpa using hl) (by
    intro j p q hp hq
    obtain⟨size',g1,g2,g3,g4⟩:=h (j+1) p q (by simpa using hp) (by simpa using hq)
    refine⟨size',g1,g2,?_,g4⟩
    simp; omega)
  obtain⟨cells,i1,i2⟩:=ih
  refine⟨cells,?_,?_⟩
  · rw[←i1]
    congr 1
  · rw[e1]; exact i2
end
end Go.Ab
namespace Go.Ab
variable [GlobEnv] [FrEnv] [KnEnv]
section
variable {P:Program} {S:St} {e:Env} {a:Act}
theorem chkOds_spec:∀ {xs:List Operand} {ys:List Od},chkOds xs ys=true->EnvR S e a.tmps->VRs S (ys.map e.ev) (xs.map a.eval)
 | [],[],_,_=>VRs.nil S
 | [],_::_,h,_=>by simp[chkOds]at h
 | _::_,[],h,_=>by simp[chkOds]at h
 | x::xs,y::ys,h,he=>by
  simp only[chkOds,Bool.and_eq_true]at h
  exact VRs.cons (chkOd_spec h.1 he) (chkOds_spec h.2 he)
theorem zeroB_spec {t:TypeId} {z:List SV} (h:zeroB P t z=true):∃ zv,(∀ w:World,(zeroValue t).run P w=.ok zv w)∧VRs S z zv.cells.toList∧∀ s∈z,s.isCell=true∧∀ n,s.under n=true:=by
 unfold zeroB at h
 split at h
 · rename_i i hi
   split at h
   · rename_i zv hz
     simp only[Bool.and_eq_true,beq_iff_eq]at h
     obtain⟨h1,h2⟩:=h
     rw[List.all_eq_true]at h2
     have key:∀ (j:Nat) (s:SV) (u:Value),z[j]? = some s->zv.cells.toList[j]? = some u->constB s u=true∧s.isCell=true:=by
      intro j s u hj hu
      have:=h2 (s,u) (List.mem_of_getElem? (i:=j) (by rw[List.getElem?_zip_eq_some]; exact⟨hj,hu⟩))
      simpa using this
     refine⟨zv,fun w=>by simp[zeroValue,typeInfo,hi,hz],⟨h1,fun j s u hj hu=>constB_spec (key j s u hj hu).1⟩,?_⟩
     intro s hs
     obtain⟨j,hj⟩:=List.getElem?_of_mem hs
     have hlt:j<zv.cells.toList.length:=by rw[h1]; exact getElem?_lt hj
     obtain⟨h3,h4⟩:=key j s _ hj (List.getElem?_eq_getElem hlt)
     refine⟨h4,fun n => ?_⟩
     generalize zv.cells.toList[j]=u at h3
     clear key h1 h2 hlt hs hj hi hz
     cases s<;>simp_all [constB,SV.isCell,SV.under]
     rename_i cells len
     cases cells with
     | nil=>simp[SV.underL]
     | cons c r=>cases h3
   · cases h
 · cases h
theorem partsB_spec {t:TypeId}:∀ {ps:List (Nat×Operand)} {qs:List (Nat×Nat×Od)},partsB P t ps qs=true->EnvR S e a.tmps →
   ps.length=qs.length∧∀ (j:Nat) (p:Nat×Operand) (q:Nat×Nat×Od),ps[j]? = some p->qs[j]? = some q →
     VR S (e.ev q.2.2) (a.eval p.2)∧(match P.underlying t with
    | some (.struct _)=>fieldB P t p.1 q.1 q.2.1
    | some (.array _ el)=>q.1==p.1*q.2.1&&sizeB P el q.2.1
    | _=>false)=true
 | [],[],_,_=>⟨rfl,fun j p q h=>by simp at h⟩
 | [],_::_,h,_=>by simp[partsB]at h
 | _::_,[],h,_=>by simp[partsB]at h
 | (f,x)::ps,(off,size,y)::qs,h,he=>by
   simp only[partsB,Bool.and_eq_true]at h
   obtain⟨h1,h2⟩:=partsB_spec h.2 he
   refine⟨by simp[h1],?_⟩
   intro j p q hp hq
   cases j with
   | zero =>
     simp at hp hq; subst hp hq
     refine⟨chkOd_spec h.1.1 he,?_⟩
     have:=h.1.2
     simp only
     split at this<;>simp_all
   | succ j=>exact h2 j p q (by simpa using hp) (by simpa using hq)
theorem places_of (fs:List Field) (h:∀ fd∈fs,(P.info? fd.type).isSome=true) :
 ∃ pl:List (Nat×Nat),fs.mapM (fun f=>(P.info? f.type).map fun i=>(f.offset,i.size))=some pl∧pl.length=fs.length ∧
  ∀ (j:Nat) (fd:Field),fs[j]? = some fd->∃ n,pl[j]? = some (fd.offset,n)∧sizeB P fd.type n=true:=by
 induction fs with
 | nil=>exact⟨[],rfl,rfl,fun j fd h=>by simp at h⟩
 | cons fd r ih =>
  obtain⟨i,hi⟩:=Option.isSome_iff_exists.1 (h fd (by simp))
  obtain⟨pl,h1,h2,h3⟩:=ih (fun f hf=>h f (by simp[hf]))
  refine⟨(fd.offset,i.size)::pl,?_,by simp[h2],?_⟩
  · simp[List.mapM_cons,hi,h1]
  · intro j fd' hj
    cases j with
    | zero=>simp at hj; subst hj; exact⟨i.size,rfl,by simp[sizeB,hi]⟩
    | succ j=>exact h3 j fd' (by simpa using hj)
theorem eqFields_sound {xs ys:Array Value} (d:Nat) (w:World):∀ (fs:List Field) (ks:List CK) (j:Nat) (l m:List SV) (us vs:List Value),flatB P fs ks j=true →
 VRs S l us->VRs S m vs->(∀ k,us[k]? = xs[j+k]?)->(∀ k,vs[k]? = ys[j+k]?)->eqSide ks l m->(Op.eqFields (d+1) xs ys fs).run P w=.ok (eqAll ks l m) w
 | [],[],j,l,m,us,vs,_,_,_,_,_,h=>by simp[Op.eqFields,eqAll]
 | [],_::_,j,l,m,us,vs,hf,_,_,_,_,h=>by simp[flatB]at hf
 | _::_,[],j,l,m,us,vs,hf,_,_,_,_,h=>by simp[flatB]at hf
 | f::fs,k::ks,j,[],m,us,vs,hf,_,_,_,_,h=>by cases k<;>simp[eqSide]at h
 | f::fs,k::ks,j,_::_,[],us,vs,hf,_,_,_,_,h=>by cases k<;>simp[eqSide]at h
 | f::fs,k::ks,j,x::l,y::m,us,vs,hf,h1,h2,h3,h4,h=>by
  rw[flatB,Bool.and_eq_true,Bool.and_eq_true,Bool.and_eq_true]at hf
  obtain⟨⟨⟨g1,g2⟩,g3⟩,g4⟩:=hf
  obtain⟨u,us',rfl⟩:∃ u us',us=u::us':=by cases us with | nil=>simp[VRs]at h1 | cons u us'=>exact⟨u,us',rfl⟩
  obtain⟨v,vs',rfl⟩:∃ v vs',vs=v::vs':=by cases vs with | nil=>simp[VRs]at h2 | cons v vs'=>exact⟨v,vs',rfl⟩
  have hx:=h1.2 0 x u rfl rfl
  have hy:=h2.2 0 y v rfl rfl
  have hxs:xs[j]? = some u:=by have:=h3 0; simpa using this.symm
  have hys:ys[j]? = some v:=by have:=h4 0; simpa using this.symm
  have t1:VRs S l us':=⟨by have:=h1.1; simpa using this,fun i s u hi hu=>h1.2 (i+1) s u (by simpa using hi) (by simpa using hu)⟩
  have t2:VRs S m vs':=⟨by have:=h2.1; simpa using this,fun i s u hi hu=>h2.2 (i+1) s u (by simpa using hi) (by simpa using hu)⟩
  have t3:∀ k,us'[k]? = xs[j+1+k]? := fun k=>by have:=h3 (k+1); simp at this; rw[this]; congr 1; omega
  have t4:∀ k,vs'[k]? = ys[j+1+k]? := fun k=>by have:=h4 (k+1); simp at this; rw[this]; congr 1; omega
  have hone:oneB P f.type=true:=by
   unfold ckB at g3
   unfold oneB
   cases k<;>simp only at g3<;>split at g3<;>first | (rename_i hu; rw[hu]) | cases g3
  have go:∀ (b:Bool),(Op.equalIn (d+1) f.type u v).run P w=.ok b w->∀ rest,(Op.eqFields (d+1) xs ys fs).run P w=.ok rest w →
   (Op.eqFields (d+1) xs ys (f::fs)).run P w=.ok (b&&rest) w:=by
   intro b hb rest hrest
   have hne : f.name ≠ "_" := by simpa using g1
   have ho:f.offset=j:=by simpa using g2
   simp only[Op.eqFields]
   rw[if_pos hne]
   simp only[Sem.run_bind,ho,run_part_one hone hxs w,run_part_one hone hys w,Result.andThen_ok,hb]
   cases b<;>simp[hrest]
  cases k with
  | i k =>
   simp only[eqSide]at h
   have e1:=hx.isI h.1.1; have e2:=hy.isI h.1.2
   subst e1 e2
   have ih:=eqFields_sound d w fs ks (j+1) l m us' vs' g4 t1 t2 t3 t4 h.2
   simp only[eqAll]
   refine go _ ?_ _ ih
   unfold ckB at g3
   simp only at g3
   split at g3
   · rename_i k' hu; exact run_equalIn_int w d f.type k k' _ _ hu
   · cases g3
  | b =>
   simp only[eqSide]at h
   have e1:=hx.isB h.1.1; have e2:=hy.isB h.1.2
   subst e1 e2
   have ih:=eqFields_sound d w fs ks (j+1) l m us' vs' g4 t1 t2 t3 t4 h.2
   simp only[eqAll]
   refine go _ ?_ _ ih
   unfold ckB at g3
   simp only at g3
   split at g3
   · rename_i hu; exact run_equalIn_bool w d f.type _ _ hu
   · cases g3
  | s =>
   simp only[eqSide]at h
   have e1:=hx.isS h.1.1; have e2:=hy.isS h.1.2
   subst e1 e2
   have ih:=eqFields_sound d w fs ks (j+1) l m us' vs' g4 t1 t2 t3 t4 h.2
   simp only[eqAll]
   refine go _ ?_ _ ih
   unfold ckB at g3
   simp only at g3
   split at g3
   · rename_i hu
     rw[run_equalIn_string w d f.type _ _ hu]
     simp[ByteArray.toList_eq,Bool.beq_eq_decide_eq]
   · cases g3
theorem el_sound {t:TypeId} {k:CK} {x y:SV} {u v:Value} {ks:List CK} {l m:List SV} (hk:ckB P t k=true) (hx:VR S x u) (hy:VR S y v) (h:eqSide (k::ks) (x::l) (y::m)) :
 ∃ b:Bool,(∀ d w,(Op.equalIn (d+1) t u v).run P w=.ok b w)∧eqAll (k::ks) (x::l) (y::m)=(b&&eqAll ks l m)∧eqSide ks l m:=by
 unfold ckB at hk
 cases k with
 | i k =>
  simp only[eqSide]at h
  have e1:=hx.isI h.1.1; have e2:=hy.isI h.1.2
  subst e1 e2
  simp only at hk
  split at hk
  · rename_i k' hu; exact⟨_,fun d w=>run_equalIn_int w d t k k' _ _ hu,rfl,h.2⟩
  · cases hk
 | b =>
  simp only[eqSide]at h
  have e1:=hx.isB h.1.1; have e2:=hy.isB h.1.2
  subst e1 e2
  simp only at hk
  split at hk
  · rename_i hu; exact⟨_,fun d w=>run_equalIn_bool w d t _ _ hu,rfl,h.2⟩
  · cases hk
 | s =>
  simp only[eqSide]at h
  have e1:=hx.isS h.1.1; have e2:=hy.isS h.1.2
  subst e1 e2
  simp only at hk
  split at hk
  · rename_i hu
    refine⟨_,fun d w=>run_equalIn_string w d t _ _ hu,?_,h.2⟩
    simp[eqAll,ByteArray.toList_eq,Bool.beq_eq_decide_eq]
  · cases hk
theorem ck_one {t:TypeId} {k:CK} (hk:ckB P t k=true):oneB P t=true:=by
 unfold ckB at hk
 unfold oneB
 cases k<;>simp only at hk<;>split at hk<;>first | (rename_i hu; rw[hu]) | cases hk
theorem eqItems_sound {xs ys:Array Value} (d:Nat) (w:World) {t:TypeId}:∀ (ks:List CK) (j:Nat) (l m:List SV) (us vs:List Value),(∀ k∈ks,ckB P t k=true) →
 VRs S l us->VRs S m vs->(∀ k,us[k]? = xs[j+k]?)->(∀ k,vs[k]? = ys[j+k]?)->eqSide ks l m->(Op.eqItems (d+1) t 1 xs ys (List.range' j ks.length)).run P w=.ok (eqAll ks l m) w
 | [],j,l,m,us,vs,_,_,_,_,_,h=>by simp[Op.eqItems,eqAll]
 | k::ks,j,[],m,us,vs,hf,_,_,_,_,h=>by cases k<;>simp[eqSide]at h
 | k::ks,j,_::_,[],us,vs,hf,_,_,_,_,h=>by cases k<;>simp[eqSide]at h
 | k::ks,j,x::l,y::m,us,vs,hf,h1,h2,h3,h4,h=>by
  obtain⟨u,us',rfl⟩:∃ u us',us=u::us':=by cases us with | nil=>simp[VRs]at h1 | cons u us'=>exact⟨u,us',rfl⟩
  obtain⟨v,vs',rfl⟩:∃ v vs',vs=v::vs':=by cases vs with | nil=>simp[VRs]at h2 | cons v vs'=>exact⟨v,vs',rfl⟩
  have hx:=h1.2 0 x u rfl rfl
  have hy:=h2.2 0 y v rfl rfl
  have hxs:xs[j]? = some u:=by have:=h3 0; simpa using this.symm
  have hys:ys[j]? = some v:=by have:=h4 0; simpa using this.symm
  have t1:VRs S l us':=⟨by have:=h1.1; simpa using this,fun i s u hi hu=>h1.2 (i+1) s u (by simpa using hi) (by simpa using hu)⟩
  have t2:VRs S m vs':=⟨by have:=h2.1; simpa using this,fun i s u hi hu=>h2.2 (i+1) s u (by simpa using hi) (by simpa using hu)⟩
  have t3:∀ k,us'[k]? = xs[j+1+k]? := fun k=>by have:=h3 (k+1); simp at this; rw[this]; congr 1; omega
  have t4:∀ k,vs'[k]? = ys[j+1+k]? := fun k=>by have:=h4 (k+1); simp at this; rw[this]; congr 1; omega
  have hone:=ck_one (hf k (by simp))
  obtain⟨b,hb,he,hr⟩:=el_sound (hf k (by simp)) hx hy h
  have ih:=eqItems_sound d w ks (j+1) l m us' vs' (fun k hk=>hf k (by simp[hk])) t1 t2 t3 t4 hr
  rw[he,List.length_cons,List.range'_succ]
  simp only[Op.eqItems,Nat.mul_one,Sem.run_bind,run_part_one hone hxs w,run_part_one hone hys w,Result.andThen_ok,hb]
  cases b<;>simp[ih]
theorem sizeB_uniq {t:TypeId} {n m:Nat} (h:sizeB P t n=true) (h':sizeB P t m=true):n=m:=by
 unfold sizeB at *
 split at h
 · rename_i i hi
   rw[hi]at h'
   simp at h h'
   omega
 · cases h
theorem run_bld {t:TypeId} {z:List SV} {ps:List (Nat×Operand)} {qs:List (Nat×Nat×Od)} (hz:zeroB P t z=true) (hst:structB P t=true) (hp:partsB P t ps qs=true)
 (he:EnvR S e a.tmps) (hs:∀ p∈qs,partOk p.2.1 (e.ev p.2.2)∧p.1+p.2.1≤z.length) :
 ∃ u,(Instr.build t (ps.map fun p=>(p.1,a.eval p.2)).toArray).run P S.w=.ok u S.w∧VR S (.agg (fillS z (qs.map fun p=>(p.1,e.ev p.2.2)))) u:=by
 obtain⟨hl,hq⟩:=partsB_spec hp he
 unfold zeroB at hz
 have hz0:=hz
 split at hz
 · rename_i it hit
   split at hz
   · rename_i zv hzv
     obtain⟨zv',hrun,hvz,_⟩:=zeroB_spec (S:=S) (P:=P) (t:=t) (z:=z) (by unfold zeroB; exact hz0)
     have e1:zv'=zv:=by
      have:=hrun S.w
      simp[zeroValue,typeInfo,hit,hzv]at this
      exact this.symm
     subst e1
     have fin:∀ (place:Nat->Option (Nat×Nat)),(∀ (j:Nat) (p:Nat×Operand) (q:Nat×Nat×Od),ps[j]? = some p->qs[j]? = some q->place p.1=some (q.1,q.2.1)) →
      ∃ cells,Instr.fill place zv'.cells (ps.map fun p=>(p.1,a.eval p.2))=some cells.toArray∧VRs S (fillS z (qs.map fun p=>(p.1,e.ev p.2.2))) cells:=by
      intro place hplace
      have:=fill_sound (S:=S) place (ps.map fun p=>(p.1,a.eval p.2)) (qs.map fun p=>(p.1,e.ev p.2.2)) z zv'.cells.toList hvz (by simp[hl]) (by
       intro j p q hpj hqj
       rw[List.getElem?_map]at hpj hqj
       cases hp0:ps[j]? with
       | none=>rw[hp0]at hpj; cases hpj
       | some p0 =>
        cases hq0:qs[j]? with
        | none=>rw[hq0]at hqj; cases hqj
        | some q0 =>
         rw[hp0]at hpj; rw[hq0]at hqj
         simp at hpj hqj
         subst hpj hqj
         obtain⟨h1,h2⟩:=hs q0 (List.mem_of_getElem? hq0)
         exact⟨q0.2.1,hplace j p0 q0 hp0 hq0,h1,h2,(hq j p0 q0 hp0 hq0).1⟩)
      simpa using this
     unfold structB at hst
     split at hst
     · rename_i fs hu
       obtain⟨pl,h1,h2,h3⟩:=places_of fs.toList (by rw[List.all_eq_true]at hst; exact hst)
       obtain⟨cells,hf,hv⟩:=fin (pl.toArray[·]?) (by
        intro j p q hpj hqj
        have h4:=(hq j p q hpj hqj).2
        rw[hu]at h4
        simp only at h4
        obtain⟨fs',fd,hu',hfd,ho,hn⟩:=fieldB_spec h4
        rw[hu]at hu'; cases hu'
        obtain⟨n,h5,h6⟩:=h3 p.1 fd (by simpa using hfd)
        have:=sizeB_uniq h6 hn
        subst this
        simp[h5,ho])
       refine⟨.agg cells.toArray,run_build S.w t _ _ ?_,VR.of_agg hv⟩
       simp only[Program.built,hit,hu,hzv,h1]
       exact hf
     · rename_i n el hu
       obtain⟨ie,hie⟩:=Option.isSome_iff_exists.1 hst
       obtain⟨cells,hf,hv⟩:=fin (fun i=>some (i*ie.size,ie.size)) (by
        intro j p q hpj hqj
        have h4:=(hq j p q hpj hqj).2
        rw[hu]at h4
        simp only[Bool.and_eq_true,beq_iff_eq]at h4
        have:ie.size=q.2.1:=sizeB_uniq (P:=P) (t:=el) (by simp[sizeB,hie]) h4.2
        rw[this,h4.1])
       refine⟨.agg cells.toArray,run_build S.w t _ _ ?_,VR.of_agg hv⟩
       simp only[Program.built,hit,hu,hzv,hie]
       exact hf
     · cases hst
   · cases hz
 · cases hz
end
end Go.Ab
namespace Go.Ab
variable [GlobEnv] [FrEnv] [KnEnv]
section
variable {S:St}
theorem ext_alloc (o:Obj):Ext S.H.length S ⟨S.ρ,S.H,S.w.alloc o⟩ where
 obj:=fun i p _ h=>⟨p,h,Nat.le_refl _,fun _=>rfl⟩
 imm:=fun k hk hn=>⟨heap_alloc_lt _ _ hk,hn⟩
 size:=by simp
 shape:=fun k T m h=>shape_alloc _ _ h
 loops:=fun k r h=>loops_alloc _ _ h
 os:=rfl
 tape:=rfl
 output:=rfl
theorem sim_alloc (h:Sim S) (o:Obj):Sim ⟨S.ρ,S.H,S.w.alloc o⟩ :=
 h.step (ext_alloc o) (Nat.le_refl _) (fun i p hp=>.inl ⟨hp,rfl,fun b hb hl=>heap_alloc_lt _ _ (h.lt ⟨i,p,hp,hl,hb⟩)⟩) fun i j o o' b hi hj hl hl' h1 h2=>h.inj i j o o' b hi hj hl hl' h1 h2
def St.newSp (S:St) (x:Obj) (o:AO):St:=⟨upd S.ρ S.H.length (some S.w.heap.size),S.H++[o],S.w.alloc x⟩
abbrev St.newLp (S:St) (r:Loop) (o:AO):St:=S.newSp (.loop r) o
theorem ext_newSp (x:Obj) (o:AO):Ext S.H.length S (S.newSp x o) where
 obj:=by
  intro i p hi hp
  refine⟨p,?_,Nat.le_refl _,fun _=>upd_ne _ _ (by omega)⟩
  show(S.H++_)[i]? = _
  rw[List.getElem?_append_left hi]; exact hp
 imm:=by
  intro k hk hn
  refine⟨heap_alloc_lt _ _ hk,?_⟩
  rintro⟨i,p,hp,hl,hρ⟩
  simp only[St.newSp]at hp hρ
  by_cases hi:i=S.H.length
  · subst hi; rw[upd_same]at hρ; simp at hρ; omega
  · rw[upd_ne _ _ hi]at hρ
    have hi':i<S.H.length:=by have:=getElem?_lt hp; simp at this; omega
    rw[List.getElem?_append_left hi']at hp
    exact hn ⟨i,p,hp,hl,hρ⟩
 size:=by simp[St.newSp]
 shape:=fun k T' m hs=>shape_alloc _ _ hs
 loops:=fun k r h=>loops_alloc _ _ h
 os:=rfl
 tape:=rfl
 output:=rfl
theorem sim_newSp (h:Sim S) {x:Obj} {m:SV} {us:List Value} {cs:List SV} {T:TypeId} (hsp:SpR m x us) (hv:VRs S cs us):Sim (S.newSp x ⟨m::cs,T,0,false⟩):=by
 have he:=ext_newSp (S:=S) x ⟨m::cs,T,0,false⟩
 refine h.step he (by simp[St.newSp]) ?_ ?_
 · intro i o ho
   by_cases hi:i=S.H.length
   · subst hi
     have:o=⟨m::cs,T,0,false⟩:=by simpa[St.newSp]using ho.symm
     subst this
     refine .inr ⟨(fun e=>by cases e),fun s hs=>⟨?_,(fun e=>by cases e)⟩,fun _ _ => ?_⟩
     · simp only[List.mem_cons]at hs
       rcases hs with rfl | hs
       · exact hsp.isCell _
       · obtain⟨j,hj⟩:=List.getElem?_of_mem hs
         obtain⟨u,_,hu⟩:=hv.get hj
         exact SV.under_mono (by simp[St.newSp]) _ hu.under
     · exact⟨S.w.heap.size,x,m,us,cs,by simp only[St.newSp,upd_same],rfl,heap_alloc_at _ _,hsp,hv.ext he⟩
   · have hi':i<S.H.length:=by have:=getElem?_lt ho; simp[St.newSp]at this; omega
     refine .inl ⟨?_,upd_ne _ _ hi,fun b hb hl => ?_⟩
     · simp only[St.newSp]at ho; rw[List.getElem?_append_left hi']at ho; exact ho
     · have ho':S.H[i]? = some o:=by simp only[St.newSp]at ho; rw[List.getElem?_append_left hi']at ho; exact ho
       exact heap_alloc_lt _ _ (h.lt ⟨i,o,ho',hl,hb⟩)
 · intro i j o o' b hi hj hl hl' hρ hρ'
   have key:∀ (i:Nat) (o:AO),(S.newSp x ⟨m::cs,T,0,false⟩).H[i]? = some o->o.own=true->(S.newSp x ⟨m::cs,T,0,false⟩).ρ i=some b →
    (i=S.H.length∧b=S.w.heap.size)∨(S.H[i]? = some o∧S.ρ i=some b∧b<S.w.heap.size):=by
    intro i o ho hl hρ
    by_cases hi:i=S.H.length
    · subst hi; simp only[St.newSp,upd_same]at hρ; simp at hρ; exact .inl ⟨rfl,hρ.symm⟩
    · have hi':i<S.H.length:=by have:=getElem?_lt ho; simp[St.newSp]at this; omega
      simp only[St.newSp]at ho hρ
      rw[List.getElem?_append_left hi']at ho
      rw[upd_ne _ _ hi]at hρ
      exact .inr ⟨ho,hρ,h.lt ⟨i,o,ho,hl,hρ⟩⟩
   rcases key i o hi hl hρ with ⟨h1,h2⟩ | ⟨h1,h2,h3⟩<;>rcases key j o' hj hl' hρ' with ⟨h4,h5⟩ | ⟨h4,h5,h6⟩
   · omega
   · omega
   · omega
   · exact h.inj i j o o' b h1 h4 hl hl' h2 h5
theorem ext_newLp (r:Loop) (o:AO):Ext S.H.length S (S.newLp r o):=ext_newSp _ _
theorem sim_newLp (h:Sim S) {r:Loop} {kk:Nat} {ok:Loop->Prop} {cs:List SV} {T:TypeId} (hok:ok r) (hst:LpSt r .ready) (hv:VRs S cs r.tmps.toList):Sim (S.newLp r ⟨.lp kk ok .ready::cs,T,0,false⟩) :=
 sim_newSp h ⟨hok,hst,rfl⟩ hv
theorem turn_sp (h:Sim S) {i l:Nat} {o o':AO} {x x':Obj} (ho:S.H[i]? = some o) (hl:o.live=false) (hc:o.cells≠[]) (hρ:S.ρ i=some l) (hr:S.w.heap[l]? = some x) (hx:(∃ r,x=Obj.loop r)∨(∃ es cl,x=Obj.map es cl)) (hxx:∀ r,x=Obj.loop r->∃ r',x'=Obj.loop r')
 (hl':o'.live=false) (hv:o.ver≤o'.ver) (hn:o'.cells=[]∨∃ m us env,o'.cells=m::env∧SpR m x' us∧VRs S env us) :
 Ext S.H.length S ⟨S.ρ,S.H.set i o',S.w.putObj l x'⟩∧Sim ⟨S.ρ,S.H.set i o',S.w.putObj l x'⟩:=by
 have hwo:o.own=true:=by
  cases hcc:o.cells with
  | nil=>exact absurd hcc hc
  | cons x y=>simp[AO.own,hcc]
 have hlt:=getElem?_lt ho
 have he:Ext S.H.length S ⟨S.ρ,S.H.set i o',S.w.putObj l x'⟩:=by
  refine⟨fun j p hj hp => ?_,fun k hk hnr => ?_,?_,fun k T m hs => ?_,fun k q hq => ?_,rfl,rfl,rfl⟩
  · by_cases hij:j=i
    · subst hij
      rw[ho]at hp; cases hp
      exact⟨o',List.getElem?_set_self hlt,hv,fun _=>rfl⟩
    · exact⟨p,by show(S.H.set i o')[j]? = _; rw[List.getElem?_set_ne (by omega)]; exact hp,Nat.le_refl _,fun _=>rfl⟩
  · have hkl:k≠l:=fun e=>hnr ⟨i,o,ho,hwo,e ▸ hρ⟩
    refine⟨World.putObj_heap_other hkl,?_⟩
    rintro⟨j,p,hp,hpl,hpρ⟩
    simp only at hp hpρ
    by_cases hij:j=i
    · subst hij; rw[hρ]at hpρ; cases hpρ; exact hkl rfl
    · rw[List.getElem?_set_ne (by omega)]at hp
      exact hnr ⟨j,p,hp,hpl,hpρ⟩
  · simp
  · unfold World.shape? at *
    by_cases hkl:k=l
    · subst hkl; rw[hr]at hs; rcases hx with ⟨r,rfl⟩ | ⟨es,cl,rfl⟩<;>cases hs
    · rw[World.putObj_heap_other hkl]; exact hs
  · by_cases hkl:k=l
    · subst hkl
      rw[hr]at hq; cases hq
      obtain⟨r',rfl⟩:=hxx q rfl
      exact⟨r',World.putObj_heap_same (lt_heap hr)⟩
    · exact⟨q,(World.putObj_heap_other hkl).trans hq⟩
 refine⟨he,h.step he (by simp) ?_ ?_⟩
 · intro j p hp
   by_cases hij:j=i
   · subst hij
     have:p=o':=by simp only at hp; rw[List.getElem?_set_self hlt]at hp; cases hp; rfl
     subst this
     refine .inr ⟨(fun e=>by rw[hl']at e; cases e),fun s hs=>⟨?_,(fun e=>by rw[hl']at e; cases e)⟩,fun _ hne => ?_⟩
     · rcases hn with hn | ⟨m,us,env,h1,h2,h4⟩
       · rw[hn]at hs; cases hs
       · rw[h1,List.mem_cons]at hs
         rcases hs with rfl | hs
         · exact h2.isCell _
         · obtain⟨j',hj⟩:=List.getElem?_of_mem hs
           obtain⟨u,_,hu⟩:=h4.get hj
           simpa using hu.under
     · rcases hn with hn | ⟨m,us,env,h1,h2,h4⟩
       · exact absurd hn hne
       · exact⟨l,x',m,us,env,hρ,h1,World.putObj_heap_same (lt_heap hr),h2,h4.ext he⟩
   · have hp':S.H[j]? = some p:=by simp only at hp; rw[List.getElem?_set_ne (by omega)]at hp; exact hp
     refine .inl ⟨hp',rfl,fun b' hb' hl'=>World.putObj_heap_other ?_⟩
     intro e; subst e
     exact hij (h.inj j i p o b' hp' ho hl' hwo hb' hρ)
 · intro j k p q b' hj hk hjl hkl hρj hρk
   have key:∀ (j:Nat) (p:AO),(S.H.set i o')[j]? = some p->p.own=true->∃ p',S.H[j]? = some p'∧p'.own=true:=by
    intro j p hp hpl
    by_cases hij:j=i
    · subst hij; exact⟨o,ho,hwo⟩
    · rw[List.getElem?_set_ne (by omega)]at hp; exact⟨p,hp,hpl⟩
   obtain⟨p',h1,h2⟩:=key j p hj hjl
   obtain⟨q',h3,h4⟩:=key k q hk hkl
   exact h.inj j k p' q' b' h1 h3 h2 h4 hρj hρk
theorem turn_lp (h:Sim S) {i l:Nat} {o o':AO} {r r':Loop} (ho:S.H[i]? = some o) (hl:o.live=false) (hc:o.cells≠[]) (hρ:S.ρ i=some l) (hr:S.w.heap[l]? = some (Obj.loop r))
 (hl':o'.live=false) (hv:o.ver≤o'.ver) (hn:o'.cells=[]∨∃ kk ok st env,o'.cells=.lp kk ok st::env∧ok r'∧LpSt r' st∧VRs S env r'.tmps.toList) :
 Ext S.H.length S ⟨S.ρ,S.H.set i o',S.w.putObj l (.loop r')⟩∧Sim ⟨S.ρ,S.H.set i o',S.w.putObj l (.loop r')⟩ :=
 turn_sp h ho hl hc hρ hr (.inl ⟨r,rfl⟩) (fun _ _=>⟨r',rfl⟩) hl' hv (hn.imp id fun⟨kk,ok,st,env,h1,h2,h3,h4⟩=>⟨_,_,env,h1,⟨h2,h3,rfl⟩,h4⟩)
theorem Sim.loop (h:Sim S) {i kk:Nat} {ok:Loop->Prop} {st:LSt} {cs:List SV} {T:TypeId} (ho:S.H[i]? = some ⟨.lp kk ok st::cs,T,0,false⟩) :
 ∃ l r,S.ρ i=some l∧S.w.heap[l]? = some (Obj.loop r)∧ok r∧LpSt r st∧VRs S cs r.tmps.toList:=by
 obtain⟨l,x,m,us,env,h1,h2,h3,h4,h6⟩:=h.lp i _ ho rfl (by simp)
 obtain⟨rfl,rfl⟩:=List.cons.inj h2
 rcases h4.kind with ⟨r,rfl⟩ | ⟨es,cl,rfl⟩
 · obtain⟨h7,h8,rfl⟩:=h4
   exact⟨l,r,h1,h3,h7,h8,h6⟩
 · exact h4.elim
theorem Sim.map (h:Sim S) {i:Nat} {ks:List Value} {cs:List SV} {T:TypeId} {v:Nat} (ho:S.H[i]? = some ⟨.mk ks::cs,T,v,false⟩) :
 ∃ l es cl,S.ρ i=some l∧S.w.heap[l]? = some (Obj.map es cl)∧ks=es.toList.map (·.key)∧VRs S cs (es.toList.map (·.val)):=by
 obtain⟨l,x,m,us,env,h1,h2,h3,h4,h6⟩:=h.lp i _ ho rfl (by simp)
 obtain⟨rfl,rfl⟩:=List.cons.inj h2
 rcases h4.kind with ⟨r,rfl⟩ | ⟨es,cl,rfl⟩
 · exact h4.elim
 · obtain⟨h7,rfl⟩:=h4
   exact⟨l,es,cl,h1,h3,h7,h6⟩
end
end Go.Ab
