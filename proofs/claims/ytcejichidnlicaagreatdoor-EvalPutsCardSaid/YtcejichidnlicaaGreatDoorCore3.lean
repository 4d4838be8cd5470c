/-
  Steps of the proof: contracts of functions and plain facts that the statement rests on.
-/
import Derived.Test.YtcejichidnlicaaGreatDoorCore2
import Derived.Test.YtcejichidnlicaaGreatDoorCore1
set_option linter.all false
namespace Go.Ab
variable [GlobEnv] [FrEnv] [KnEnv]
def closed (H:List AO):Prop:=∀ (i:Nat) (o:AO),H[i]? = some o->∀ s∈o.cells,s.under H.length=true
theorem Sim.closed {S:St} (h:Sim S):closed S.H:=fun i o ho s hs=>(h.bel i o ho s hs).1
theorem VRs.map {S S':St} {l:List SV} {us:List Value} (h:VRs S l us) {f:SV->SV} (hf:∀ s v,VR S s v->VR S' (f s) v):VRs S' (l.map f) us:=by
 refine⟨by simp[h.1],?_⟩
 intro j s u h1 h2
 rw[List.getElem?_map]at h1
 cases hj:l[j]? with
 | none=>rw[hj]at h1; cases h1
 | some s0=>rw[hj]at h1; cases h1; exact hf s0 u (h.2 j s0 u hj h2)
def placeOf (ks:List Nat) (k:Nat):Option Nat :=
 match ks with
 | []=>none
 | x::r=>if x=k then some 0 else(placeOf r k).map (· + 1)
theorem placeOf_some {ks:List Nat} {k p:Nat} (h:placeOf ks k=some p):ks[p]? = some k:=by
 induction ks generalizing p with
 | nil=>simp[placeOf]at h
 | cons x r ih =>
  unfold placeOf at h
  split at h
  · rename_i hx; cases h; simp[hx]
  · cases hr:placeOf r k with
    | none=>rw[hr]at h; cases h
    | some q=>rw[hr]at h; cases h; simpa using ih hr
theorem placeOf_none {ks:List Nat} {k p:Nat} (h:placeOf ks k=none):ks[p]? ≠ some k:=by
 induction ks generalizing p with
 | nil=>simp
 | cons x r ih =>
  unfold placeOf at h
  split at h
  · cases h
  · rename_i hx
    cases hr:placeOf r k with
    | none=>cases p with
     | zero=>simpa using hx
     | succ p=>simpa using ih hr
    | some q=>rw[hr]at h; cases h
def SV.pnW (y:SV):SV:=if y.isRw=true then .pn y else y
section
variable {S:St}
theorem own_plain (hS:Sim S) {i off len sz ver:Nat} {v:Value} {o:AO} (h:VR S (.own i off len sz ver) v) (ho:S.H[i]? = some o) (hl:o.live=true) (hver:o.ver=ver) {a:Addr} {n c:Nat} (hv:v=.slice (some a) n c) (hn:n≠0):∃ b,S.ρ i=some b∧a.block=b∧plainB S.w b:=by
 subst hv
 cases h with
 | own _ _ _ _ _ ad cap o' ho' hvl hcap hz hat =>
  rw[ho]at ho'; cases ho'
  have h2:=hat hver
  unfold St.OwnAt at h2
  have h1:=hS.live i o ho hl
  cases hρ:S.ρ i with
  | none=>rw[hρ]at h2; exact absurd h2.1 hn
  | some b =>
   rw[hρ]at h1 h2
   obtain⟨us,rest,hh,_⟩:=h1
   rcases h2 with h2 | ⟨h2,_⟩
   · omega
   · cases h2; exact⟨b,rfl,rfl,_,_,hh⟩
theorem pnW_rel {S:St} {y:SV} {v:Value} (h:VR S y v) (hp:y.isRw=true->y.isOwn=false->S.Pl v):VR S y.pnW v:=by
 unfold SV.pnW
 by_cases hr:y.isRw=true
 · rw[if_pos hr]; exact .pn y v h hr (hp hr)
 · rw[if_neg hr]; exact h
end
def SV.fz (n:Nat) (ks:List Nat) (L:List AO):Nat->SV->SV
 | 0,_=>.any
 | d+1,s =>
  if s.under n=true then s else
  match s with
  | .any=>.any
  | .val v=>.val v
  | .gd _ _=>.any
  | .slc cells len=>.slc (cells.map (SV.fz n ks L d)) len
  | .own i off len sz ver =>
   match L[i-n]? with
   | some o =>
    match placeOf ks (i-n)with
    | some p=>if o.ver=ver then .own (n+p) off len sz 0 else .any
    | none=>if o.live=true∧o.ver=ver∧off+len*sz≤o.cells.length then .slc (((o.cells.drop off).take (len*sz)).map (SV.fz n ks L d)) len else .any
   | none=>.any
  | .ptr (.own i off len sz ver) k =>
   match L[i-n]? with
   | some o =>
    match placeOf ks (i-n)with
    | some p=>if o.ver=ver then .ptr (.own (n+p) off len sz 0) k else .any
    | none=>if o.live=true∧o.ver=ver∧off<o.cells.length then .ptr (.slc ((o.cells.drop off).map (SV.fz n ks L d)) 0) k else .any
   | none=>.any
  | .ptr (.slc cells len) k=>.ptr (.slc (cells.map (SV.fz n ks L d)) len) k
  | .ptr _ _=>.any
  | .agg l=>.agg (l.map (SV.fz n ks L d))
  | .tup l=>.tup (l.map (SV.fz n ks L d))
  | .fn f x y=>.fn f (x.map (SV.fz n ks L d)) (y.map (SV.fz n ks L d))
  | .ifc t x=>.ifc t (SV.fz n ks L d x)
  | .yl _=>.any
  | .lp _ _ _=>.any
  | .mk _=>.any
  | .mp i ver =>
   match L[i-n]? with
   | some o =>
    match placeOf ks (i-n)with
    | some _=>.any
    | none=>if o.live=false∧o.ver=ver then(match o.cells with | .mk kk::vs=>.mpf kk (vs.map (SV.fz n ks L d)) | _=>.any)else .any
   | none=>.any
  | .mpf kk vs=>.mpf kk (vs.map (SV.fz n ks L d))
  | .pn x=>(SV.fz n ks L d x).pnW
def keptO (n:Nat) (ks:List Nat) (L:List AO) (d:Nat):List AO :=
 ks.map fun k=>match L[k]? with
  | some o=>{ cells:=o.cells.map (SV.fz n ks L d),ty:=o.ty,ver:=0,live:=true }
  | none=>{ cells:=[],ty:=0,ver:=0,live:=false }
def keptOk (n:Nat) (ks:List Nat) (L:List AO) (d:Nat):List Nat->Prop
 | []=>True
 | k::r=>(match L[k]? with
  | some o=>o.live=true∧cellsOk (o.cells.map (SV.fz n ks L d))
  | none=>False)∧k∉r∧keptOk n ks L d r
section
variable {S:St} {H0 L:List AO} {ks:List Nat} {d0:Nat}
def keptρ (S:St) (n:Nat) (ks:List Nat):Nat->Option Nat:=fun i=>if i<n then S.ρ i else match ks[i-n]? with
 | some k=>S.ρ (n+k)
 | none=>none
def keptS (S:St) (H0 L:List AO) (ks:List Nat) (d:Nat):St:=⟨keptρ S H0.length ks,H0++keptO H0.length ks L d,S.w⟩
theorem keptOk_mem {n d:Nat}:∀ {l:List Nat},keptOk n ks L d l->∀ {p k:Nat},l[p]? = some k->∃ o,L[k]? = some o∧o.live=true∧cellsOk (o.cells.map (SV.fz n ks L d))
 | [],_,p,k,h=>by simp at h
 | x::r,h,p,k,hp=>by
  cases p with
  | zero =>
   simp at hp; subst hp
   have:=h.1
   cases hx:L[x]? with
   | none=>rw[hx]at this; exact this.elim
   | some o=>rw[hx]at this; exact⟨o,rfl,this⟩
  | succ p=>simp at hp; exact keptOk_mem h.2.2 hp
theorem keptOk_inj {n d:Nat}:∀ {l:List Nat},keptOk n ks L d l->∀ {p q k:Nat},l[p]? = some k->l[q]? = some k->p=q
 | [],_,p,q,k,h,_=>by simp at h
 | x::r,h,p,q,k,hp,hq=>by
  cases p with
  | zero =>
   cases q with
   | zero=>rfl
   | succ q=>simp at hp hq; subst hp; exact absurd (List.mem_of_getElem? hq) h.2.1
  | succ p =>
   cases q with
   | zero=>simp at hp hq; subst hq; exact absurd (List.mem_of_getElem? hp) h.2.1
   | succ q=>simp at hp hq; rw[keptOk_inj h.2.2 hp hq]
theorem keptS_at (hk:keptOk H0.length ks L d0 ks) {i:Nat} {o:AO} (h:(keptS S H0 L ks d0).H[i]? = some o) :
 (i<H0.length∧H0[i]? = some o∧keptρ S H0.length ks i=S.ρ i) ∨
 (∃ p k o',i=H0.length+p∧ks[p]? = some k∧L[k]? = some o'∧o'.live=true∧cellsOk o.cells ∧
  o={ cells:=o'.cells.map (SV.fz H0.length ks L d0),ty:=o'.ty,ver:=0,live:=true }∧keptρ S H0.length ks i=S.ρ (H0.length+k)):=by
 simp only[keptS]at h
 by_cases hi:i<H0.length
 · rw[List.getElem?_append_left hi]at h
   exact .inl ⟨hi,h,by simp[keptρ,hi]⟩
 · rw[List.getElem?_append_right (by omega)]at h
   unfold keptO at h
   rw[List.getElem?_map]at h
   cases hp:ks[i-H0.length]? with
   | none=>rw[hp]at h; cases h
   | some k =>
    rw[hp]at h
    obtain⟨o',h1,h2,h3⟩:=keptOk_mem hk hp
    simp only[Option.map_some,h1]at h
    cases h
    exact .inr ⟨i-H0.length,k,o',by omega,hp,h1,h2,h3,rfl,by simp[keptρ,hi,hp]⟩
theorem kept_rw (hS:S.H=H0++L) (hk:keptOk H0.length ks L d0 ks) {b:Nat} (h:(keptS S H0 L ks d0).rw b) :
 ∃ (i:Nat) (o:AO),S.H[i]? = some o∧o.own=true∧S.ρ i=some b∧(i<H0.length∨∃ p:Nat,ks[p]? = some (i-H0.length)):=by
 obtain⟨i,o,ho,hl,hρ⟩:=h
 change keptρ S H0.length ks i=some b at hρ
 rcases keptS_at hk ho with ⟨h1,h2,h3⟩ | ⟨p,k,o',rfl,h1,h2,h3,_,h4,h5⟩
 · exact⟨i,o,by rw[hS,List.getElem?_append_left h1]; exact h2,hl,by rw[←h3]; exact hρ,.inl h1⟩
 · refine⟨H0.length+k,o',by rw[hS,List.getElem?_append_right (by omega)]; simpa using h2,AO.own_live h3,by rw[←h5]; exact hρ,.inr ⟨p,by simpa using h1⟩⟩
theorem ext_kept (hS:S.H=H0++L) (hk:keptOk H0.length ks L d0 ks):Ext H0.length S (keptS S H0 L ks d0) where
 obj:=fun i o hi h=>⟨o,by
  show(H0++_)[i]? = _
  rw[List.getElem?_append_left hi]; rw[hS,List.getElem?_append_left hi]at h; exact h,Nat.le_refl _,fun _=>by show keptρ S H0.length ks i=_; simp[keptρ,hi]⟩
 imm:=fun k _ hnr=>⟨rfl,fun hr=>hnr (by obtain⟨i,o,h1,h2,h3,_⟩:=kept_rw hS hk hr; exact⟨i,o,h1,h2,h3⟩)⟩
 size:=Nat.le_refl _
 shape:=fun _ _ _ h=>h
 loops:=fun _ r h=>⟨r,h⟩
 os:=rfl
 tape:=rfl
 output:=rfl
theorem imm_kept (hS:S.H=H0++L) (hk:keptOk H0.length ks L d0 ks) {a:Addr} {us:List Value} (h:S.Imm a us):(keptS S H0 L ks d0).Imm a us :=
 ⟨h.1,fun hne hr=>h.2.1 hne (by obtain⟨i,o,h1,h2,h3,_⟩:=kept_rw hS hk hr; exact⟨i,o,h1,h2,h3⟩),h.2.2⟩
theorem ownAt_kept {n i p off len sz cap:Nat} {a:Option Addr} (h:S.OwnAt i off len sz a cap) (hρ:(keptS S H0 L ks d0).ρ p=S.ρ i) (_hn:n=0:=by rfl):(keptS S H0 L ks d0).OwnAt p off len sz a cap:=by
 unfold St.OwnAt at *
 rw[hρ]; exact h
theorem fz_rel (hsim:Sim S) (hS:S.H=H0++L) (hk:keptOk H0.length ks L d0 ks):∀ (d:Nat),d≤d0->∀ (s:SV) (v:Value),VR S s v->VR (keptS S H0 L ks d0) (s.fz H0.length ks L d) v:=by
 intro d
 induction d with
 | zero=>intro _ s v _; exact .any v
 | succ d ih =>
  intro hd s v h
  have ih:=ih (by omega)
  unfold SV.fz
  by_cases hu:s.under H0.length=true
  · rw[if_pos hu]; exact h.extB (ext_kept hS hk) (.inr hu)
  rw[if_neg hu]
  have row:∀ (i off:Nat) (o:AO) (b:Nat),¬ i<H0.length->S.H[i]? = some o->o.live=true->S.ρ i=some b->placeOf ks (i-H0.length)=none->∀ m,off+m≤o.cells.length →
   ∃ us,(keptS S H0 L ks d0).Imm ⟨b,off,none⟩ us∧VRs (keptS S H0 L ks d0) (((o.cells.drop off).take m).map (SV.fz H0.length ks L d)) us:=by
   intro i off o b hi ho hl hρ hp m hm
   have h1:=hsim.live i o ho hl
   rw[hρ]at h1
   obtain⟨us,rest,hh,hvr⟩:=h1
   have hlen:us.length=o.cells.length:=hvr.1
   refine⟨(us.drop off).take m,⟨?_,?_,fun _ _=>.inl ⟨_,_,hh⟩⟩,((hvr.drop off).take m).map ih⟩
   · intro j u hj
     rw[List.getElem?_take]at hj
     split at hj
     · rw[List.getElem?_drop]at hj
       have hadd:(⟨b,off,none⟩:Addr).add j=⟨b,off+j,none⟩:=by unfold Addr.add; split<;>simp_all
       rw[hadd]
       show S.w.cell? _=_
       unfold World.cell?
       simp only[hh,Option.isSome_none,Bool.false_eq_true,if_false]
       simp[List.getElem?_append_left (getElem?_lt hj),hj]
     · cases hj
   · intro hne hr
     obtain⟨i',o',ho',hl',hρ',hi'⟩:=kept_rw hS hk hr
     have e1:=hsim.inj i i' o o' b ho ho' (AO.own_live hl) hl' hρ hρ'
     subst e1
     rcases hi' with hi' | ⟨p,hi'⟩
     · exact hi hi'
     · exact placeOf_none hp hi'
  have hL:∀ {i:Nat} {o:AO},¬ i<H0.length->L[i-H0.length]? = some o->S.H[i]? = some o:=by
   intro i o hi ho; rw[hS,List.getElem?_append_right (by omega)]; exact ho
  have hρk:∀ {i p:Nat},¬ i<H0.length->placeOf ks (i-H0.length)=some p->(keptS S H0 L ks d0).ρ (H0.length+p)=S.ρ i:=by
   intro i p hi hp
   have:=placeOf_some hp
   show keptρ S H0.length ks (H0.length+p)=_
   simp only[keptρ]
   rw[if_neg (by omega)]
   have e:H0.length+p-H0.length=p:=by omega
   rw[e,this]
   show S.ρ _=_
   congr 1; omega
  have hok:∀ {i p:Nat},¬ i<H0.length->placeOf ks (i-H0.length)=some p->∃ o',(keptS S H0 L ks d0).H[H0.length+p]? = some o'∧o'.ver=0:=by
   intro i p hi hp
   have:=placeOf_some hp
   obtain⟨o,h1,h2,h3⟩:=keptOk_mem hk this
   refine⟨{ cells:=o.cells.map (SV.fz H0.length ks L d0),ty:=o.ty,ver:=0,live:=true },?_,rfl⟩
   · show(H0++keptO H0.length ks L d0)[H0.length+p]? = some { cells:=o.cells.map (SV.fz H0.length ks L d0),ty:=o.ty,ver:=0,live:=true }
     rw[List.getElem?_append_right (by omega)]
     unfold keptO
     rw[List.getElem?_map]
     have e:H0.length+p-H0.length=p:=by omega
     rw[e,this]
     simp[h1]
  cases h with
  | any v=>exact .any v
  | val v=>exact .val v
  | gd b x v h0 h=>exact .any v
  | nilslc=>simpa using VR.nilslc
  | slc cells len a cap us hc hl hi h =>
   have hm:=VRs.map (S:=S) (l:=cells) (us:=us) ⟨hl,h⟩ ih
   exact .slc _ len a cap us hc hm.1 (imm_kept hS hk hi) hm.2
  | own i off len sz ver a cap o ho hv hc hz hat =>
   have hi:¬ i<H0.length:=by simpa[SV.under]using hu
   simp only
   cases hLi:L[i-H0.length]? with
   | none=>exact .any _
   | some o2 =>
    have e2:=hL hi hLi
    rw[ho]at e2
    cases e2
    simp only
    cases hp:placeOf ks (i-H0.length)with
    | some p =>
     simp only
     split
     · rename_i hver
       obtain⟨o',h1,h2⟩:=hok hi hp
       exact .own _ off len sz 0 a cap o' h1 (by omega) hc hz fun _=>ownAt_kept (hat hver) (hρk hi hp)
     · exact .any _
    | none =>
     simp only
     split
     · rename_i hcond
       obtain⟨hl,hver,hlen⟩:=hcond
       have h2:=hat hver
       unfold St.OwnAt at h2
       cases hρ:S.ρ i with
       | none =>
        rw[hρ]at h2
        obtain⟨rfl,rfl⟩:=h2
        cases a with
        | none=>simpa using VR.nilslc
        | some a =>
         simp only[Nat.zero_mul,List.take_zero,List.map_nil]
         exact .slc [] 0 a 0 [] hc rfl ⟨fun j u hj=>by simp at hj,fun hne=>absurd rfl hne,imm_part0⟩ fun j s u hj=>by simp at hj
       | some b =>
        rw[hρ]at h2
        obtain⟨us,hi1,hi2⟩:=row i off o b hi ho hl hρ hp (len*sz) hlen
        cases a with
        | none =>
         have h0:=hz rfl
         subst h0
         have hc0:cap=0:=by
          rcases h2 with h2 | ⟨h2,_⟩
          · exact h2
          · cases h2
         subst hc0
         simpa using VR.nilslc
        | some a =>
         rcases h2 with h2 | ⟨h2,_⟩
         · have:len=0:=by omega
           subst this
           simp only[Nat.zero_mul,List.take_zero,List.map_nil]
           exact .slc [] 0 a cap [] hc rfl ⟨fun j u hj=>by simp at hj,fun hne=>absurd rfl hne,imm_part0⟩ fun j s u hj=>by simp at hj
         · cases h2
           exact .slc _ len _ cap us hc hi2.1 hi1 hi2.2
     · exact .any _
  | ptrI cells len k a us hl hi h =>
   have hm:=VRs.map (S:=S) (l:=cells) (us:=us) ⟨hl,h⟩ ih
   exact .ptrI _ len k a us hm.1 (imm_kept hS hk hi) hm.2
  | ptrO i off len sz ver k a o ho hv hat =>
   have hi:¬ i<H0.length:=by simpa[SV.under]using hu
   simp only
   cases hLi:L[i-H0.length]? with
   | none=>exact .any _
   | some o2 =>
    have e2:=hL hi hLi
    rw[ho]at e2
    cases e2
    simp only
    cases hp:placeOf ks (i-H0.length)with
    | some p =>
     simp only
     split
     · rename_i hver
       obtain⟨o',h1,h2⟩:=hok hi hp
       refine .ptrO _ off len sz 0 k a o' h1 (by omega) fun _ => ?_
       obtain⟨b,hb1,hb2⟩:=hat hver
       exact⟨b,(hρk hi hp).trans hb1,hb2⟩
     · exact .any _
    | none =>
     simp only
     split
     · rename_i hcond
       obtain⟨hl,hver,hlen⟩:=hcond
       obtain⟨b,hρ,rfl⟩:=hat hver
       obtain⟨us,hi1,hi2⟩:=row i off o b hi ho hl hρ hp (o.cells.length-off) (by omega)
       have e1:(o.cells.drop off).take (o.cells.length-off)=o.cells.drop off:=by rw[List.take_of_length_le]; simp
       rw[e1]at hi2
       have e2:(⟨b,off+k,none⟩:Addr)=(⟨b,off,none⟩:Addr).add k:=by unfold Addr.add; split<;>simp_all
       rw[e2]
       exact .ptrI _ 0 k _ us hi2.1 hi1 hi2.2
     · exact .any _
  | agg l us hl h=>exact VR.of_agg (VRs.map (S:=S) (l:=l) (us:=us) ⟨hl,h⟩ ih)
  | tup l us hl h=>exact VR.of_tup (VRs.map (S:=S) (l:=l) (us:=us) ⟨hl,h⟩ ih)
  | fn f x y us vs hl h hl' h'=>exact VR.fn_of (VRs.map (S:=S) (l:=x) (us:=us) ⟨hl,h⟩ ih) (VRs.map (S:=S) (l:=y) (us:=vs) ⟨hl',h'⟩ ih)
  | ifc t x v h=>exact .ifc t _ v (ih x v h)
  | yl i l o ho h=>exact .any _
  | mp i ver l o ho hv h =>
   have hi:¬ i<H0.length:=by simpa[SV.under]using hu
   simp only
   cases hLi:L[i-H0.length]? with
   | none=>exact .any _
   | some o2 =>
    have e2:=hL hi hLi
    rw[ho]at e2
    cases e2
    simp only
    cases hp:placeOf ks (i-H0.length)with
    | some p=>exact .any _
    | none =>
     simp only
     split
     · rename_i hcond
       obtain⟨hl,hver⟩:=hcond
       split
       · rename_i kk vs hcells
         obtain⟨l',x,m,us,env,k1,k2,k3,k4,k5⟩:=hsim.lp i o ho hl (by rw[hcells]; simp)
         rw[hcells]at k2
         obtain⟨rfl,rfl⟩:=List.cons.inj k2
         have hρ:=h hver
         rw[hρ]at k1; cases k1
         rcases k4.kind with ⟨r,rfl⟩ | ⟨es,cl,rfl⟩
         · exact k4.elim
         · obtain⟨rfl,rfl⟩:=k4
           have hm:=k5.map ih
           refine .mpf _ l es cl _ k3 (fun hr => ?_) rfl hm.1 hm.2
           obtain⟨i',o',ho',hl',hρ',hi'⟩:=kept_rw hS hk hr
           have e1:=hsim.inj i i' o o' l ho ho' (by simp[AO.own,hcells]) hl' hρ hρ'
           subst e1
           rcases hi' with hi' | ⟨p,hi'⟩
           · exact hi hi'
           · exact placeOf_none hp hi'
       · exact .any _
     · exact .any _
  | mpf vs l es cl us hb hn hu2 hl h =>
   have hm:=VRs.map (S:=S) (l:=vs) (us:=us) ⟨hl,h⟩ ih
   exact .mpf _ l es cl us hb (fun hr=>hn (by obtain⟨i',o',ho',hl',hρ',_⟩:=kept_rw hS hk hr; exact⟨i',o',ho',hl',hρ'⟩)) hu2 hm.1 hm.2
  | pn x v h hr hp =>
   simp only
   refine pnW_rel (ih x v h) fun hr' ho' a len cap hv hn => ?_
   have hrw:∀ k,(keptS S H0 L ks d0).rw k->S.rw k:=fun k hkk=>by obtain⟨i',o',ho',hl',hρ',_⟩:=kept_rw hS hk hkk; exact⟨i',o',ho',hl',hρ'⟩
   have hux:¬ x.under H0.length=true:=by simpa[SV.under]using hu
   cases x with
   | slc cells len' =>
    obtain⟨h1,h2⟩:=hp rfl a len cap hv hn
    exact⟨h1,fun hk2=>h2 (hrw _ hk2)⟩
   | own i off len' sz ver =>
    have hi:¬ i<H0.length:=by simpa[SV.under]using hux
    cases d with
    | zero=>simp[SV.fz,SV.isRw]at hr'
    | succ d =>
     unfold SV.fz at hr' ho'
     rw[if_neg hux]at hr' ho'
     simp only at hr' ho'
     cases hLi:L[i-H0.length]? with
     | none=>rw[hLi]at hr'; simp[SV.isRw]at hr'
     | some o =>
      have e2:=hL hi hLi
      rw[hLi]at hr' ho'
      simp only at hr' ho'
      cases hpl:placeOf ks (i-H0.length)with
      | some p =>
       rw[hpl]at hr' ho'
       simp only at hr' ho'
       split at ho'
       · simp[SV.isOwn]at ho'
       · rename_i hc; rw[if_neg hc]at hr'; simp[SV.isRw]at hr'
      | none =>
       rw[hpl]at hr'
       simp only at hr'
       split at hr'
       · rename_i hc
         obtain⟨hl,hver,_⟩:=hc
         obtain⟨b,hb1,hb2,hb3⟩:=own_plain hsim h e2 hl hver hv hn
         rw[hb2]
         refine⟨hb3,fun hk2 => ?_⟩
         obtain⟨i',o',ho2,hl',hρ',hi'⟩:=kept_rw hS hk hk2
         have e1:=hsim.inj i i' o o' b e2 ho2 (AO.own_live hl) hl' hb1 hρ'
         subst e1
         rcases hi' with hi' | ⟨p,hi'⟩
         · exact hi hi'
         · exact placeOf_none hpl hi'
       · simp[SV.isRw]at hr'
   | _=>simp[SV.isRw]at hr
theorem sim_kept (hsim:Sim S) (hS:S.H=H0++L) (hcl:closed H0) (hk:keptOk H0.length ks L d0 ks):Sim (keptS S H0 L ks d0):=by
 have hlive:∀ (i:Nat) (o:AO),(keptS S H0 L ks d0).H[i]? = some o->o.live=true →
  match (keptS S H0 L ks d0).ρ i with
  | none=>o.cells=[]
  | some b=>∃ us rest,S.w.heap[b]? = some (.cells (us++rest).toArray o.ty (0,0))∧VRs (keptS S H0 L ks d0) o.cells us:=by
  intro i o ho hl
  show match keptρ S H0.length ks i with
   | none=>o.cells=[]
   | some b=>_
  rcases keptS_at hk ho with ⟨h1,h2,h3⟩ | ⟨p,k,o',rfl,h1,h2,h3,_,rfl,h5⟩
  · rw[h3]
    have h4:=hsim.live i o (by rw[hS,List.getElem?_append_left h1]; exact h2) hl
    cases hρ:S.ρ i with
    | none=>rw[hρ]at h4; exact h4
    | some b =>
     rw[hρ]at h4
     obtain⟨us,rest,h5,h6⟩:=h4
     exact⟨us,rest,h5,h6.extB (ext_kept hS hk) ((SV.underL_iff _ _).2 (hcl i o h2))⟩
  · rw[h5]
    have h4:=hsim.live (H0.length+k) o' (by rw[hS,List.getElem?_append_right (by omega)]; simpa using h2) h3
    cases hρ:S.ρ (H0.length+k)with
    | none=>rw[hρ]at h4; simp only; rw[h4]; rfl
    | some b =>
     rw[hρ]at h4
     obtain⟨us,rest,h6,h7⟩:=h4
     exact⟨us,rest,h6,h7.map (fz_rel hsim hS hk d0 (Nat.le_refl _))⟩
 refine⟨hlive,?_,?_,?_,hsim.gl.ext (ext_kept hS hk),hsim.kf.ext (ext_kept hS hk)⟩
 · intro i o ho s hs
   rcases keptS_at hk ho with ⟨h1,h2,h3⟩ | ⟨p,k,o',rfl,h1,h2,h3,h6,rfl,h5⟩
   · refine⟨?_,(hsim.bel i o (by rw[hS,List.getElem?_append_left h1]; exact h2) s hs).2⟩
     exact SV.under_mono (by show _≤(H0++_).length; simp) s (hcl i o h2 s hs)
   · refine⟨?_,fun _=>h6 s hs⟩
     have h8:=hlive _ _ ho rfl
     split at h8
     · rw[h8]at hs; cases hs
     · obtain⟨us,rest,h9,h10⟩:=h8
       obtain⟨j,hj⟩:=List.getElem?_of_mem hs
       obtain⟨u,_,h11⟩:=h10.get hj
       exact h11.under
 · intro i j o o' b hi hj hl hl' hρ hρ'
   change keptρ S H0.length ks i=some b at hρ
   change keptρ S H0.length ks j=some b at hρ'
   rcases keptS_at hk hi with ⟨h1,h2,h3⟩ | ⟨p,k,o1,rfl,h1,h2,h3,_,rfl,h5⟩<;>rcases keptS_at hk hj with ⟨g1,g2,g3⟩ | ⟨q,k',o2,rfl,g1,g2,g3,_,rfl,g5⟩
   · exact hsim.inj i j o o' b (by rw[hS,List.getElem?_append_left h1]; exact h2) (by rw[hS,List.getElem?_append_left g1]; exact g2) hl hl' (by rw[←h3]; exact hρ) (by rw[←g3]; exact hρ')
   · have:=hsim.inj i (H0.length+k') o o2 b (by rw[hS,List.getElem?_append_left h1]; exact h2) (by rw[hS,List.getElem?_append_right (by omega)]; simpa using g2) hl (AO.own_live g3) (by rw[←h3]; exact hρ) (by rw[←g5]; exact hρ')
     omega
   · have:=hsim.inj (H0.length+k) j o1 o' b (by rw[hS,List.getElem?_append_right (by omega)]; simpa using h2) (by rw[hS,List.getElem?_append_left g1]; exact g2) (AO.own_live h3) hl' (by rw[←h5]; exact hρ) (by rw[←g3]; exact hρ')
     omega
   · have:=hsim.inj (H0.length+k) (H0.length+k') o1 o2 b (by rw[hS,List.getElem?_append_right (by omega)]; simpa using h2) (by rw[hS,List.getElem?_append_right (by omega)]; simpa using g2) (AO.own_live h3) (AO.own_live g3) (by rw[←h5]; exact hρ) (by rw[←g5]; exact hρ')
     have e:k=k':=by omega
     subst e
     rw[keptOk_inj hk h1 g1]
 · intro i o ho hl hne
   rcases keptS_at hk ho with ⟨h1,h2,h3⟩ | ⟨p,k,o',rfl,h1,h2,h3,h6,rfl,h5⟩
   · obtain⟨l,x,m,us,env,k1,k2,k3,k4,k6⟩:=hsim.lp i o (by rw[hS,List.getElem?_append_left h1]; exact h2) hl hne
     have hu:=hcl i o h2
     rw[k2]at hu
     exact⟨l,x,m,us,env,h3.trans k1,k2,k3,k4,k6.extB (ext_kept hS hk) ((SV.underL_iff _ _).2 fun s hs=>hu s (by simp[hs]))⟩
   · cases hl
end
theorem frozen {S:St} (hsim:Sim S) (d:Nat):∃ ρ,Ext S.H.length S ⟨ρ,S.H.map AO.dead,S.w⟩∧Sim ⟨ρ,S.H.map AO.dead,S.w⟩∧∀ s v,VR S s v->VR ⟨ρ,S.H.map AO.dead,S.w⟩ (s.fz 0 [] S.H d) v:=by
 have hk:keptOk ([]:List AO).length [] S.H d []:=trivial
 have hS:S.H=[]++S.H:=rfl
 have hdead:∀ (i:Nat) (o:AO),(S.H.map AO.dead)[i]? = some o->o.live=false∧o.cells=[]:=by
  intro i o ho
  rw[List.getElem?_map,Option.map_eq_some_iff]at ho
  obtain⟨p,_,rfl⟩:=ho
  exact⟨rfl,rfl⟩
 have hrw:∀ b,¬ (⟨fun _=>none,S.H.map AO.dead,S.w⟩:St).rw b:=by
  rintro b ⟨i,o,ho,hl,_⟩
  simp[AO.own,(hdead i o ho).1,(hdead i o ho).2]at hl
 have he1:Ext (keptS S [] S.H [] d).H.length (keptS S [] S.H [] d) ⟨fun _=>none,S.H.map AO.dead,S.w⟩:=by
  refine⟨fun i o hi _ => ?_,fun k hk hn=>⟨rfl,hrw k⟩,Nat.le_refl _,fun _ _ _ h=>h,fun _ r h=>⟨r,h⟩,rfl,rfl,rfl⟩
  simp[keptS,keptO]at hi
 refine⟨fun _=>none,⟨fun i o hi ho=>⟨o.dead,by rw[List.getElem?_map,ho]; rfl,by simp[AO.dead],fun h=>by simp[AO.dead]at h⟩,fun k hk hn=>⟨rfl,hrw k⟩,Nat.le_refl _,fun _ _ _ h=>h,fun _ r h=>⟨r,h⟩,rfl,rfl,rfl⟩,⟨?_,?_,?_,?_,?_,?_⟩,?_⟩
 · intro i o ho hl
   rw[(hdead i o ho).1]at hl; cases hl
 · intro i o ho s hs
   rw[(hdead i o ho).2]at hs; cases hs
 · intro i j o o' b hi hj hl
   simp[AO.own,(hdead i o hi).1,(hdead i o hi).2]at hl
 · intro i o ho hl hne
   exact absurd (hdead i o ho).2 hne
 · exact(hsim.gl.ext (ext_kept (H0:=[]) hS hk)).ext he1
 · exact(hsim.kf.ext (ext_kept (H0:=[]) hS hk)).ext he1
 · intro s v h
   exact(fz_rel hsim hS hk d (Nat.le_refl _) s v h).ext he1
def Env.frz (e:Env) (H:List AO) (d:Nat):Env:=e.map fun p=>(p.1,p.2.fz 0 [] H d)
theorem frz_get (e:Env) (H:List AO) (d t:Nat):(e.frz H d).get t=(e.get t).fz 0 [] H d∨(e.frz H d).get t=.any:=by
 induction e with
 | nil=>right; rfl
 | cons p r ih =>
  obtain⟨k,v⟩:=p
  simp only[Env.frz,List.map_cons,Env.get]
  by_cases h:k=t
  · rw[if_pos h,if_pos h]; left; rfl
  · rw[if_neg h,if_neg h]; exact ih
end Go.Ab
namespace Go.Ab
variable [GlobEnv] [FrEnv] [KnEnv]
theorem run_enterLoop_inner {P:Program} {w:World} {l:Nat} {r:Loop} (h:w.heap[l]? = some (Obj.loop r)) (fn:FuncId) (tmps:Array Value) (ps:Array Tmp) (assign body:Code) :
 (Instr.enterLoop fn tmps ps assign body (some l)).run P w =
  .ok (w.heap.size,[]) (w.alloc (.loop { state:=.ready,pending:=none,fn,tmps,params:=ps,assign,body,defers:=r.defers })):=by
 unfold Instr.enterLoop
 simp only[Sem.run_bind,run_getLoop h,run_newObj_alloc,Result.andThen,Sem.run_pure]
end Go.Ab
namespace Go.Ab
variable [GlobEnv] [FrEnv] [KnEnv]
def pureI (o:Ins):Bool:=match o.j with | .p _=>true | _=>false
def pickI (l:List Ins) (o:List Nat):List Ins:=o.filterMap fun i=>l[i]?
def xre (P:Program) (l:List Ins):List (List Nat)->Env->List AO->(XE->Env->List AO->Prop)->Prop
 | [],_,_,_=>True
 | o::r,env,H,K=>xops P (pickI l o) env H K∧xre P l r env H K
theorem xre_all {P:Program} {l:List Ins} {env:Env} {H:List AO} {K:XE->Env->List AO->Prop}:∀ {os:List (List Nat)},xre P l os env H K->∀ o∈os,xops P (pickI l o) env H K
 | [],_,o,ho=>by simp at ho
 | x::r,h,o,ho=>by
  rw[List.mem_cons]at ho
  rcases ho with rfl | ho
  · exact h.1
  · exact xre_all h.2 o ho
def compB (ops:Array Oper) (os:List (List Nat)):Nat->List Nat->Array Bool->Bool
 | 0,p,listed=>(Region.ready .any ops listed).isEmpty&&os.any (· == p)
 | n+1,p,listed=>if(Region.ready .any ops listed).isEmpty then os.any (· == p)else
  (Region.ready .any ops listed).all fun i=>os.any (fun o=>(p++[i]).isPrefixOf o)&&compB ops os n (p++[i]) (listed.setIfInBounds i true)
section
variable {P:Program} {N:Nat} {db:DB}
theorem xo_pure {o:Ins} (h:pureI o=true) (env:Env) (H:List AO):∃ (side:Prop) (env':Env),∀ K:XE->Env->List AO->Prop,xo P o env H K↔side∧K .normal env' H:=by
 unfold pureI at h
 split at h
 · rename_i i hj
   cases hg:o.g with
   | none=>exact⟨(pv i env.ev H).1,env.put o.d (pv i env.ev H).2,fun K=>by simp only[xo,xj,hg,hj]⟩
   | some sw =>
    obtain⟨s,want⟩:=sw
    exact⟨(env.get s).bish=true∧((env.get s).on want=true->(pv i env.ev H).1),env.put o.d (.gd ((env.get s).on want) (pv i env.ev H).2),fun K=>by simp only[xo,hg,hj,and_assoc]⟩
 · cases h
theorem chkL_get {ops:Array Oper}:∀ {l:List Oper} {l':List Ins} {i:Nat} {o:Oper},chkL P N ops l l'=true->l[i]? = some o->∃ o',l'[i]? = some o'∧chkIns P N ops o o'=true
 | [],_,i,o,_,h=>by simp at h
 | _::_,[],i,o,hc,h=>by simp[chkL]at hc
 | x::l,y::l',0,o,hc,h=>by
  simp only[chkL,Bool.and_eq_true]at hc
  simp at h; subst h
  exact⟨y,rfl,hc.1⟩
 | x::l,y::l',i+1,o,hc,h=>by
  simp only[chkL,Bool.and_eq_true]at hc
  simpa using chkL_get hc.2 (by simpa using h)
theorem dre_sound {ops:Array Oper} {os:List (List Nat)} {l:List Ins} {S:St} {K:XE->Env->List AO->Prop} (hc:chkL P N ops ops.toList l=true) (hp:l.all pureI=true) :
 ∀ (fuel:Nat) (p:List Nat) (listed:Array Bool) (S':St) (env:Env) (a:Act),compB ops os fuel p listed=true->listed.size=ops.size->(∀ rest,p++rest∈os->xops P (pickI l rest) env S'.H K) →
  Ext S.H.length S S'->Sim S'->EnvR S' env a.tmps->a.tmps.size=N->db.Ok S'.w a.defers->wpAny P .any ops (Post S N db K) fuel listed a S'.w:=by
 intro fuel
 have hmem:∀ {p:List Nat},os.any (· == p)=true->p∈os:=by
  intro p h
  rw[List.any_eq_true]at h
  obtain⟨x,hx,he⟩:=h
  rw[←eq_of_beq he]; exact hx
 have done:∀ (p:List Nat) (S':St) (env:Env) (a:Act),os.any (· == p)=true->(∀ rest,p++rest∈os->xops P (pickI l rest) env S'.H K) →
  Ext S.H.length S S'->Sim S'->EnvR S' env a.tmps->a.tmps.size=N->db.Ok S'.w a.defers->Post S N db K .normal a S'.w :=
  fun p S' env a h hx he hS henv hN hd=>⟨.normal,env,S'.ρ,S'.H,trivial,he,hS,henv,hN,hd,hx [] (by simpa using hmem h)⟩
 induction fuel with
 | zero =>
  intro p listed S' env a hcm hsz hx he hS henv hN hd
  simp only[compB,Bool.and_eq_true,List.isEmpty_iff]at hcm
  exact⟨hcm.1,done p S' env a hcm.2 hx he hS henv hN hd⟩
 | succ n ih =>
  intro p listed S' env a hcm hsz hx he hS henv hN hd
  simp only[compB]at hcm
  refine⟨fun hr => ?_,fun i hi => ?_⟩
  · rw[hr]at hcm
    exact done p S' env a (by simpa using hcm) hx he hS henv hN hd
  · rw[if_neg (by intro h; rw[List.isEmpty_iff]at h; rw[h]at hi; simp at hi),List.all_eq_true]at hcm
    have h1:=hcm i hi
    rw[Bool.and_eq_true]at h1
    rw[mem_ready]at hi
    obtain⟨g1,o,ho,hdeps⟩:=hi
    obtain⟨o',ho',hins⟩:=chkL_get hc (i:=i) (by simpa using ho)
    have hpu:pureI o'=true:=by rw[List.all_eq_true]at hp; exact hp o' (List.mem_of_getElem? ho')
    obtain⟨side,env',hxo⟩:=xo_pure (P:=P) hpu env S'.H
    have hpick:∀ rest,pickI l (i::rest)=o'::pickI l rest:=fun rest=>by simp[pickI,ho']
    have hrest:∀ rest,p++(i::rest)∈os->side∧xops P (pickI l rest) env' S'.H K:=by
     intro rest hm
     have h2:=hx (i::rest) hm
     rw[hpick]at h2
     simp only[xops]at h2
     exact(hxo _).1 h2
    have hside:side:=by
     have h2:=h1.1
     rw[List.any_eq_true]at h2
     obtain⟨x,hx1,hx2⟩:=h2
     rw[List.isPrefixOf_iff_prefix]at hx2
     obtain⟨t,ht⟩:=hx2
     refine(hrest t ?_).1
     rw[show p++i::t=p++[i]++t by simp,ht]; exact hx1
    refine step_wpOp' ho (xo_sound (Q:=Post S N db K) (K:=fun x e h=>x=.normal∧e=env'∧h=S'.H) hS henv hN hd hins ((hxo _).2 ⟨hside,rfl,rfl,rfl⟩) ?_ ?_)
    · rintro a' w' ⟨x,env1,ρ',H',hx',hext,hsim,henv',hN',hd',rfl,rfl,rfl⟩
      refine ih (p++[i]) _ ⟨ρ',S'.H,w'⟩ env1 a' h1.2 (by simpa using hsz) (fun rest hm => ?_) (he.trans (hext.mono (he.len (Nat.le_refl _)))) hsim henv' hN' hd'
      exact(hrest rest (by rw[show p++i::rest=p++[i]++rest by simp]; exact hm)).2
    · rintro ch a' w' ⟨x,env1,ρ',H',hx',hext,hsim,henv',hN',hd',rfl,_⟩
      simp only[ER]at hx'
theorem compB_more {ops:Array Oper} {os:List (List Nat)}:∀ (n:Nat) (p:List Nat) (listed:Array Bool),compB ops os n p listed=true->compB ops os (n+1) p listed=true
 | 0,p,listed,h=>by
  simp only[compB,Bool.and_eq_true]at h
  rw[compB,if_pos h.1]; exact h.2
 | n+1,p,listed,h=>by
  rw[compB]at h
  rw[compB]
  by_cases he:(Region.ready .any ops listed).isEmpty=true
  · rw[if_pos he]at h ⊢; exact h
  · rw[if_neg he]at h ⊢
    rw[List.all_eq_true]at h ⊢
    intro i hi
    have:=h i hi
    rw[Bool.and_eq_true]at this ⊢
    exact⟨this.1,compB_more n _ _ this.2⟩
theorem compB_add {ops:Array Oper} {os:List (List Nat)} {n:Nat} {p:List Nat} {listed:Array Bool} (h:compB ops os n p listed=true):∀ d,compB ops os (n+d) p listed=true
 | 0=>h
 | d+1=>compB_more _ _ _ (compB_add h d)
theorem wpAny_post {md:Region.Mode} {ops:Array Oper} {Q Q':Exit->Act->World->Prop} (hq:∀ e a w,Q e a w->Q' e a w):∀ (fuel:Nat) (listed:Array Bool) (a:Act) (w:World),wpAny P md ops Q fuel listed a w->wpAny P md ops Q' fuel listed a w
 | 0,_,_,_,h=>⟨h.1,hq _ _ _ h.2⟩
 | fuel+1,listed,a,w,h=>by
  refine⟨fun hr=>hq _ _ _ (h.1 hr),fun i hi => ?_⟩
  have h3:=h.2 i hi
  unfold wpOp at h3 ⊢
  cases ho:ops[i]? with
  | none=>rw[ho]at h3; exact wpAny_post hq fuel _ _ _ h3
  | some o =>
   rw[ho]at h3
   simp only at h3 ⊢
   split at h3
   · rename_i hwt
     rw[if_pos hwt]
     exact Oper.wq_mono (fun a' w' h=>wpAny_post hq fuel _ a' w' h) (fun e a w _ h=>hq e a w h) h3
   · rename_i hwt
     rw[if_neg hwt]
     exact wpAny_post hq fuel _ _ _ h3
def detI (o:Ins):Bool:=match o.j with | .p _=>true | .e (.st _ _ _)=>o.g.isNone | .e (.stw _ _ _ _)=>o.g.isNone | _=>false
theorem xo_det {o:Ins} (h:detI o=true) (env:Env) (H:List AO):∃ (side:Prop) (env':Env) (H':List AO),∀ K:XE->Env->List AO->Prop,xo P o env H K↔side∧K .normal env' H':=by
 obtain⟨d,g,j⟩:=o
 unfold detI at h
 simp only at h
 split at h
 · obtain⟨side,env',hx⟩:=xo_pure (P:=P) (o:=⟨d,g,.p _⟩) rfl env H
   exact⟨side,env',H,hx⟩
 · rename_i n p x
   have hg:g=none:=by cases g with | none=>rfl | some _=>cases h
   subst hg
   have key:∀ K:XE->Env->List AO->Prop,xo P ⟨d,none,.e (.st n p x)⟩ env H K↔((env.ev p).vd=true∧(env.ev x).vd=true∧cellsOk (env.ev x).ug.flat∧(env.ev x).ug.flat.length=n∧0<n ∧
    match (env.ev p).ug with
    | .ptr (.own i off _ _ ver) k=>off+k+n≤(objCells H i ver).length∧K .normal (env.put d (.val undef)) (setObj H i fun o=>o.put (off+k) (env.ev x).ug.flat)
    | _=>False):=fun K=>Iff.rfl
   by_cases hp:∃ i off a b ver k,(env.ev p).ug=.ptr (.own i off a b ver) k
   · obtain⟨i,off,a,b,ver,k,hp⟩:=hp
     refine⟨(env.ev p).vd=true∧(env.ev x).vd=true∧cellsOk (env.ev x).ug.flat∧(env.ev x).ug.flat.length=n∧0<n∧off+k+n≤(objCells H i ver).length,env.put d (.val undef),setObj H i fun o=>o.put (off+k) (env.ev x).ug.flat,fun K => ?_⟩
     rw[key]
     rw[hp]
     simp only[and_assoc]
   · refine⟨False,env,H,fun K => ?_⟩
     rw[key]
     constructor
     · rintro⟨_,_,_,_,_,h6⟩
       split at h6
       · rename_i hh; exact absurd ⟨_,_,_,_,_,_,hh⟩ hp
       · exact h6.elim
     · exact fun h=>h.1.elim
 · rename_i ws n p x
   have hg:g=none:=by cases g with | none=>rfl | some _=>cases h
   subst hg
   have key:∀ K:XE->Env->List AO->Prop,xo P ⟨d,none,.e (.stw ws n p x)⟩ env H K↔((env.ev p).vd=true∧(env.ev x).vd=true∧cellsOk (env.ev x).ug.flat∧(env.ev x).ug.flat.length=n∧0<n ∧
    match (env.ev p).ug with
    | .ptr (.own i off _ _ ver) k=>off+k+n≤(objCells H i ver).length∧K .normal (env.put d (.val undef)) (setObj H i fun o=>o.put (off+k) (env.ev x).ug.flat)
    | _=>False):=fun K=>Iff.rfl
   by_cases hp:∃ i off a b ver k,(env.ev p).ug=.ptr (.own i off a b ver) k
   · obtain⟨i,off,a,b,ver,k,hp⟩:=hp
     refine⟨(env.ev p).vd=true∧(env.ev x).vd=true∧cellsOk (env.ev x).ug.flat∧(env.ev x).ug.flat.length=n∧0<n∧off+k+n≤(objCells H i ver).length,env.put d (.val undef),setObj H i fun o=>o.put (off+k) (env.ev x).ug.flat,fun K => ?_⟩
     rw[key]
     rw[hp]
     simp only[and_assoc]
   · refine⟨False,env,H,fun K => ?_⟩
     rw[key]
     constructor
     · rintro⟨_,_,_,_,_,h6⟩
       split at h6
       · rename_i hh; exact absurd ⟨_,_,_,_,_,_,hh⟩ hp
       · exact h6.elim
     · exact fun h=>h.1.elim
 · cases h
def pickT (n0:Nat) (l:List Ins) (o:List Nat):List Ins:=o.filterMap fun i=>l[i-n0]?
def xrt (P:Program) (n0:Nat) (l:List Ins):List (List Nat)->Env->List AO->(XE->Env->List AO->Prop)->Prop
 | [],_,_,_=>True
 | o::r,env,H,K=>xops P (pickT n0 l o) env H K∧xrt P n0 l r env H K
theorem xrt_all {n0:Nat} {l:List Ins} {env:Env} {H:List AO} {K:XE->Env->List AO->Prop}:∀ {os:List (List Nat)},xrt P n0 l os env H K->∀ o∈os,xops P (pickT n0 l o) env H K
 | [],_,o,ho=>by simp at ho
 | x::r,h,o,ho=>by
  rw[List.mem_cons]at ho
  rcases ho with rfl | ho
  · exact h.1
  · exact xrt_all h.2 o ho
theorem drq_sound {ops:Array Oper} {n0:Nat} {os:List (List Nat)} {l:List Ins} {S:St} {K:XE->Env->List AO->Prop} (hc:chkL P N ops (ops.toList.drop n0) l=true) (hp:l.all detI=true) :
 ∀ (fuel:Nat) (p:List Nat) (listed:Array Bool) (S':St) (env:Env) (a:Act),compB ops os fuel p listed=true->listed.size=ops.size->(∀ i,i<n0->listed.getD i false=true)->(∀ rest,p++rest∈os->xops P (pickT n0 l rest) env S'.H K) →
  Ext S.H.length S S'->Sim S'->EnvR S' env a.tmps->a.tmps.size=N->db.Ok S'.w a.defers->wpAny P .any ops (Post S N db K) fuel listed a S'.w:=by
 intro fuel
 have hmem:∀ {p:List Nat},os.any (· == p)=true->p∈os:=by
  intro p h
  rw[List.any_eq_true]at h
  obtain⟨x,hx,he⟩:=h
  rw[←eq_of_beq he]; exact hx
 have done:∀ (p:List Nat) (S':St) (env:Env) (a:Act),os.any (· == p)=true->(∀ rest,p++rest∈os->xops P (pickT n0 l rest) env S'.H K) →
  Ext S.H.length S S'->Sim S'->EnvR S' env a.tmps->a.tmps.size=N->db.Ok S'.w a.defers->Post S N db K .normal a S'.w :=
  fun p S' env a h hx he hS henv hN hd=>⟨.normal,env,S'.ρ,S'.H,trivial,he,hS,henv,hN,hd,hx [] (by simpa using hmem h)⟩
 induction fuel with
 | zero =>
  intro p listed S' env a hcm hsz hl hx he hS henv hN hd
  simp only[compB,Bool.and_eq_true,List.isEmpty_iff]at hcm
  exact⟨hcm.1,done p S' env a hcm.2 hx he hS henv hN hd⟩
 | succ n ih =>
  intro p listed S' env a hcm hsz hl hx he hS henv hN hd
  simp only[compB]at hcm
  refine⟨fun hr => ?_,fun i hi => ?_⟩
  · rw[hr]at hcm
    exact done p S' env a (by simpa using hcm) hx he hS henv hN hd
  · rw[if_neg (by intro h; rw[List.isEmpty_iff]at h; rw[h]at hi; simp at hi),List.all_eq_true]at hcm
    have h1:=hcm i hi
    rw[Bool.and_eq_true]at h1
    rw[mem_ready]at hi
    obtain⟨g1,o,ho,hdeps⟩:=hi
    have hlt:=(Array.getElem?_eq_some_iff.1 ho).1
    have hin:n0≤i:=by
     rcases Nat.lt_or_ge i n0 with h | h
     · have:=hl i h
       rw[getD_sz (by omega),this]at g1; cases g1
     · exact h
    obtain⟨o',ho',hins⟩:=chkL_get hc (i:=i-n0) (by rw[List.getElem?_drop,show n0+(i-n0)=i by omega]; simpa using ho)
    have hpu:detI o'=true:=by rw[List.all_eq_true]at hp; exact hp o' (List.mem_of_getElem? ho')
    obtain⟨side,env',H1,hxo⟩:=xo_det (P:=P) hpu env S'.H
    have hpick:∀ rest,pickT n0 l (i::rest)=o'::pickT n0 l rest:=fun rest=>by simp[pickT,ho']
    have hrest:∀ rest,p++(i::rest)∈os->side∧xops P (pickT n0 l rest) env' H1 K:=by
     intro rest hm
     have h2:=hx (i::rest) hm
     rw[hpick]at h2
     simp only[xops]at h2
     exact(hxo _).1 h2
    have hside:side:=by
     have h2:=h1.1
     rw[List.any_eq_true]at h2
     obtain⟨x,hx1,hx2⟩:=h2
     rw[List.isPrefixOf_iff_prefix]at hx2
     obtain⟨t,ht⟩:=hx2
     refine(hrest t ?_).1
     rw[show p++i::t=p++[i]++t by simp,ht]; exact hx1
    refine step_wpOp' ho (xo_sound (Q:=Post S N db K) (K:=fun x e h=>x=.normal∧e=env'∧h=H1) hS henv hN hd hins ((hxo _).2 ⟨hside,rfl,rfl,rfl⟩) ?_ ?_)
    · rintro a' w' ⟨x,env1,ρ',H',hx',hext,hsim,henv',hN',hd',rfl,rfl,rfl⟩
      refine ih (p++[i]) _ ⟨ρ',H',w'⟩ env1 a' h1.2 (by simpa using hsz) (fun k hk => ?_) (fun rest hm => ?_) (he.trans (hext.mono (he.len (Nat.le_refl _)))) hsim henv' hN' hd'
      · rw[getD_set' (by omega),if_neg (by omega)]; exact hl k hk
      · exact(hrest rest (by rw[show p++i::rest=p++[i]++rest by simp]; exact hm)).2
    · rintro ch a' w' ⟨x,env1,ρ',H',hx',hext,hsim,henv',hN',hd',rfl,_⟩
      simp only[ER]at hx'
end
end Go.Ab
namespace Go.Ab
variable [GlobEnv] [FrEnv] [KnEnv]
def covB (ops:Array Oper) (l:List Ins):Bool:=ops.toList.all fun o=>o.dst.isNone||l.any fun i=>i.d==o.dst
def offE:List Ins->Env->Env
 | [],e=>e
 | i::r,e=>(offE r e).put i.d .any
theorem offE_in {e:Env} {t:Nat}:∀ {l:List Ins},(∃ i∈l,i.d=some t)->(offE l e).get t=.any
 | [],⟨_,h,_⟩=>by simp at h
 | i::r,⟨j,h,hj⟩=>by
  simp only[offE]
  by_cases hi:i.d=some t
  · rw[hi]; simp[Env.put,Env.get]
  · have h2:(offE r e).get t=.any:=by
     rcases List.mem_cons.1 h with rfl | h
     · exact absurd hj hi
     · exact offE_in ⟨j,h,hj⟩
    cases hd:i.d with
    | none=>simpa[Env.put]using h2
    | some k =>
     have:k≠t:=fun e=>hi (by rw[hd,e])
     simp[Env.put,Env.get,this,h2]
theorem offE_out {e:Env} {t:Nat}:∀ {l:List Ins},(∀ i∈l,i.d≠some t)->(offE l e).get t=e.get t
 | [],_=>rfl
 | i::r,h=>by
  simp only[offE]
  have h2:=offE_out (e:=e) (t:=t) (l:=r) fun j hj=>h j (by simp[hj])
  have hi:=h i (by simp)
  cases hd:i.d with
  | none=>simpa[Env.put]using h2
  | some k =>
   have:k≠t:=fun e=>hi (by rw[hd,e])
   simp[Env.put,Env.get,this,h2]
def offA (ops:Array Oper) (a a':Act):Prop:=∀ t,(∀ o∈ops.toList,o.dst≠some t)->a'.tmps.getD t undef=a.tmps.getD t undef
theorem offA.put {ops:Array Oper} {a a':Act} {o:Oper} (h:offA ops a a') {i:Nat} (ho:ops[i]? = some o) (v:Value):offA ops a (a'.put o.dst v):=by
 intro t ht
 have hmem:o∈ops.toList:=by rw[Array.mem_toList_iff]; exact Array.mem_of_getElem? ho
 have hne:=ht o hmem
 rw[←h t ht]
 cases hd:o.dst with
 | none=>rfl
 | some k =>
  have:k≠t:=fun e=>hne (by rw[hd,e])
  simp[Act.put,Array.getD_eq_getD_getElem?,this]
section
variable {P:Program} {ops:Array Oper} {Q:Exit->Act->World->Prop} {a0:Act}
def offQ (ops:Array Oper) (a0:Act) (Q:Exit->Act->World->Prop):Exit->Act->World->Prop:=fun e a w=>Q e a w∧(e≠.outgrown->offA ops a0 a)
theorem letsOut_off (h:LetsOut Q):LetsOut (offQ ops a0 Q):=by
 obtain⟨a,w,h⟩:=h
 exact⟨a,w,h,fun h=>absurd rfl h⟩
theorem wpOp_off {i:Nat} {K K':Act->World->Prop} {a:Act} {w:World} (h:wpOp P ops Q i K a w) (ha:offA ops a0 a) (hK:∀ a' w',offA ops a0 a'->K a' w'->K' a' w'):wpOp P ops (offQ ops a0 Q) i K' a w:=by
 unfold wpOp at *
 cases ho:ops[i]? with
 | none=>rw[ho]at h; exact hK _ _ ha h
 | some o =>
  rw[ho]at h
  simp only at h ⊢
  split
  · rename_i hw
    rw[if_pos hw]at h
    unfold Oper.wq at *
    generalize (execOp a.eval o).run P w=r at *
    cases r with
    | ok n w' =>
     cases n<;>simp only[Oper.uponIn]at h ⊢ <;> first | exact hK _ _ (ha.put ho _) h | exact hK _ _ (offA.put (a':={ a with defers:=_::a.defers }) ha ho _) h | exact⟨h.1,RowsIn.mono h.2 fun v w'' hv=>hK _ _ (ha.put ho v) hv⟩ | (refine⟨h.1,CallsIn.mono h.2 fun e w'' he => ?_⟩; cases e<;>first | exact hK _ _ (ha.put ho _) he | exact⟨he,fun _=>ha⟩ | exact letsOut_off he) | (refine⟨h.1,RoundIn.mono h.2 fun e w'' he => ?_⟩; cases e<;>first | exact hK _ _ (ha.put ho _) he | exact⟨he,fun _=>ha⟩ | exact letsOut_off he)
    | halt hh w' =>
     cases hh<;>simp only[Oper.uponIn]at h ⊢ <;> exact⟨h,fun _=>ha⟩
  · rename_i hw
    rw[if_neg hw]at h
    exact hK _ _ (ha.put ho _) h
theorem wpAny_off {md:Region.Mode}:∀ (fuel:Nat) (listed:Array Bool) (a:Act) (w:World),wpAny P md ops Q fuel listed a w->offA ops a0 a->wpAny P md ops (offQ ops a0 Q) fuel listed a w
 | 0,listed,a,w,h,ha=>⟨h.1,h.2,fun _=>ha⟩
 | fuel+1,listed,a,w,h,ha=>⟨fun hr=>⟨h.1 hr,fun _=>ha⟩,fun i hi=>wpOp_off (h.2 i hi) ha fun a' w' ha' h'=>wpAny_off fuel _ a' w' h' ha'⟩
theorem Post.off {S:St} {N:Nat} {db:DB} {K:XE->Env->List AO->Prop} {l:List Ins} {env:Env} {e:Exit} {a:Act} {w:World} (hS:EnvR S env a0.tmps) (hc:covB ops l=true)
 (h:offQ ops a0 (Post S N db fun x e H=>match x with | .normal=>K .normal e H | x=>K x (offE l env) H) e a w):Post S N db K e a w:=by
 obtain⟨⟨x,env',ρ,H,h1,h2,h3,h4,h5,h6,h7⟩,h8⟩:=h
 have main:e≠.outgrown->EnvR ⟨ρ,H,w⟩ (offE l env) a.tmps:=fun hne=>by
  have hoff:=h8 hne
  refine⟨fun t => ?_⟩
  by_cases ht:∃ i∈l,i.d=some t
  · rw[offE_in ht]; exact .any _
  · rw[offE_out fun i hi h=>ht ⟨i,hi,h⟩,hoff t fun o ho hd => ?_]
    · exact(hS.ext h2).get t
    · unfold covB at hc
      rw[List.all_eq_true]at hc
      have:=hc o ho
      rw[hd]at this
      simp only[Option.isNone_some,Bool.false_or,List.any_eq_true,beq_iff_eq]at this
      exact ht this
 cases x with
 | normal=>exact⟨.normal,env',ρ,H,h1,h2,h3,h4,h5,h6,h7⟩
 | _ =>
  refine⟨_,_,ρ,H,h1,h2,h3,main ?_,h5,h6,h7⟩
  rintro rfl
  simp[ER]at h1
end
end Go.Ab
namespace Go.Ab
variable [GlobEnv] [FrEnv] [KnEnv]
inductive IC where
 | skip
 | reg (l:List Ins)
 | drw (ns:List Nat) (l:List Ins)
 | drf (Ts:List TypeId) (ns:List Nat) (l:List Ins)
 | drt (n0:Nat) (ns:List Nat) (l tl:List Ins)
 | drft (Ts:List TypeId) (n0:Nat) (ns:List Nat) (l tl:List Ins)
 | dre (os:List (List Nat)) (l:List Ins)
 | drq (Ts:List TypeId) (n0:Nat) (ns:List Nat) (l:List Ins) (os:List (List Nat)) (tl:List Ins)
 | seq (a b:IC)
 | cond (c:Od) (a b:IC)
 | blk (id:Nat) (a:IC)
 | loop (a:IC)
 | exit (id:Nat)
 | ret
 | keep (ks:List Nat) (a:IC)
 | frz (d:Nat) (a:IC)
 | rng (k:Nat) (g:Od) (ps:List Nat) (ia ib:IC)
 | scp (a:IC)
 | lab
 | no
def Env.keep (e:Env) (ks:List Nat):Env:=ks.map fun k=>(k,e.get k)
theorem Env.get_keep (e:Env) (ks:List Nat) (t:Nat):(e.keep ks).get t=e.get t∨(e.keep ks).get t=.any:=by
 induction ks with
 | nil=>right; rfl
 | cons k r ih =>
  simp only[Env.keep,List.map_cons,Env.get]
  by_cases h:k=t
  · rw[if_pos h,h]; left; rfl
  · rw[if_neg h]; exact ih
theorem EnvR.keep {S:St} {e:Env} {tmps:Array Value} (h:EnvR S e tmps) (ks:List Nat):EnvR S (e.keep ks) tmps:=by
 refine⟨fun t => ?_⟩
 rcases e.get_keep ks t with h1 | h1<;>rw[h1]
 · exact h.get t
 · exact .any _
def dreK (l:List Ins) (env:Env):List Nat:=l.filterMap (·.d)++env.map Prod.fst
def W (P:Program) (N:Nat) (c:Code) (env:Env) (H:List AO) (K:XE->Env->List AO->Prop):Prop :=
 ∀ (db:DB) (S:St) (a:Act),S.H=H->Sim S->EnvR S env a.tmps->a.tmps.size=N->db.Ok S.w a.defers->c.wq db.ro P (Post S N db K) a S.w
def St.newRes (S:St) (T:TypeId):St:=⟨upd S.ρ S.H.length none,S.H++[⟨[],T,0,false⟩],S.w⟩
theorem ext_newRes (S:St) (T:TypeId):Ext S.H.length S (S.newRes T) where
 obj:=by
  intro i o hi ho
  refine⟨o,?_,Nat.le_refl _,fun _=>upd_ne _ _ (by omega)⟩
  show(S.H++_)[i]? = _
  rw[List.getElem?_append_left hi]; exact ho
 imm:=by
  intro k hk hn
  refine⟨rfl,?_⟩
  rintro⟨i,o,ho,hl,hρ⟩
  simp only[St.newRes]at ho hρ
  by_cases hi:i=S.H.length
  · subst hi; rw[upd_same]at hρ; cases hρ
  · rw[upd_ne _ _ hi]at hρ
    have hi':i<S.H.length:=by have:=getElem?_lt ho; simp at this; omega
    rw[List.getElem?_append_left hi']at ho
    exact hn ⟨i,o,ho,hl,hρ⟩
 size:=Nat.le_refl _
 shape:=fun _ _ _ h=>h
 loops:=fun _ r h=>⟨r,h⟩
 os:=rfl
 tape:=rfl
 output:=rfl
theorem sim_newRes {S:St} (h:Sim S) (T:TypeId):Sim (S.newRes T):=by
 refine h.step (ext_newRes S T) (by simp[St.newRes]) ?_ ?_
 · intro i o ho
   by_cases hi:i=S.H.length
   · subst hi
     have:o=⟨[],T,0,false⟩:=by simpa[St.newRes]using ho.symm
     subst this
     refine .inr ⟨fun _ => ?_,fun s hs=>by simp at hs,fun _ hc=>absurd rfl hc⟩
     simp only[St.newRes,upd_same]
   · have hi':i<S.H.length:=by have:=getElem?_lt ho; simp[St.newRes]at this; omega
     refine .inl ⟨?_,upd_ne _ _ hi,fun b hb hl=>rfl⟩
     simp only[St.newRes]at ho; rw[List.getElem?_append_left hi']at ho; exact ho
 · intro i j o o' b hi hj hl hl' hρ hρ'
   have key:∀ (i:Nat) (o:AO),(S.newRes T).H[i]? = some o->(S.newRes T).ρ i=some b->S.H[i]? = some o∧S.ρ i=some b:=by
    intro i o ho hρ
    by_cases hi:i=S.H.length
    · subst hi; simp only[St.newRes,upd_same]at hρ; cases hρ
    · have hi':i<S.H.length:=by have:=getElem?_lt ho; simp[St.newRes]at this; omega
      simp only[St.newRes]at ho hρ
      rw[List.getElem?_append_left hi']at ho
      rw[upd_ne _ _ hi]at hρ
      exact⟨ho,hρ⟩
   obtain⟨h1,h2⟩:=key i o hi hρ
   obtain⟨h3,h4⟩:=key j o' hj hρ'
   exact h.inj i j o o' b h1 h3 hl hl' h2 h4
def resd (Ts:List TypeId):List AO:=Ts.map fun T=>⟨[],T,0,false⟩
theorem reserve:∀ (Ts:List TypeId) {S:St},Sim S->∃ ρ,Ext S.H.length S ⟨ρ,S.H++resd Ts,S.w⟩∧Sim ⟨ρ,S.H++resd Ts,S.w⟩
 | [],S,h=>⟨S.ρ,by simpa[resd]using Ext.refl _ S,by simpa[resd]using h⟩
 | T::r,S,h=>by
  have h1:=ext_newRes S T
  have h2:=sim_newRes h T
  obtain⟨ρ,h3,h4⟩:=reserve r h2
  have e:(S.newRes T).H++resd r=S.H++resd (T::r):=by simp[St.newRes,resd]
  rw[e]at h3 h4
  exact⟨ρ,h1.trans (h3.mono (h1.len (Nat.le_refl _))),h4⟩
def E.rs (n:Nat):E->E
 | .flo i T sz by_ z l c=>.flo (n+i) T sz by_ z l c
 | .fle i T sz=>.fle (n+i) T sz
 | .fla i T z=>.fla (n+i) T z
 | .flb i T sz len z ps=>.flb (n+i) T sz len z ps
 | e=>e
def J.rs (n:Nat):J->J
 | .e i=>.e (i.rs n)
 | j=>j
def Ins.rs (n:Nat) (o:Ins):Ins:=⟨o.d,o.g,o.j.rs n⟩
def chkP (P:Program) (N:Nat) (ops:Array Oper) (ns:List Nat) (l:List Ins):Bool :=
 (ns.zip l).all fun x=>match ops[x.1]? with | some o=>chkIns P N ops o x.2 | none=>false
def J.dep:J->Bool
 | .p (.ld1 _) | .p (.ldn _ _) | .p (.sla _ _ _ _ _) | .p (.lkp _ _ _ _ _) | .p (.bys _) | .q _ _=>true
 | _=>false
def J.quiet:J->Bool
 | .e _=>false
 | _=>true
def quietV (P:Program) (o:Ins) (env:Env) (H:List AO) (v:SV):Prop :=
 match o.g with
 | none =>
  match o.j with
  | .p i=>(pv i env.ev H).1∧v=(pv i env.ev H).2
  | .q f args=>OkC P (env.ev f) (args.map env.ev) H (.ret v) H
  | .e _=>False
 | some (s,want) =>
  (env.get s).bish=true ∧
  match o.j with
  | .p i=>((env.get s).on want=true->(pv i env.ev H).1)∧v=.gd ((env.get s).on want) (pv i env.ev H).2
  | .q f args=>∃ r,((env.get s).on want=true->OkC P (env.ev f) (args.map env.ev) H (.ret r) H)∧v=.gd ((env.get s).on want) r
  | .e _=>False
def Od.slots:Od->List Nat
 | .t n=>[n]
 | .c _=>[]
def I.ods:I->List Od
 | .eqf _ _ x y=>[x,y]
 | .mov x=>[x]
 | .pick c a b=>[c,a,b]
 | .bin _ _ x y=>[x,y]
 | .neg _ x=>[x]
 | .not x=>[x]
 | .cvi _ x=>[x]
 | .ld1 p=>[p]
 | .ldn _ p=>[p]
 | .fa _ p=>[p]
 | .fld1 _ x=>[x]
 | .fldn _ _ x=>[x]
 | .ia _ s i=>[s,i]
 | .iap _ _ p i=>[p,i]
 | .ixs s i=>[s,i]
 | .ixa _ _ _ x i=>[x,i]
 | .sl _ x lo hi=>x::(lo.toList++hi.toList)
 | .sls x lo hi=>x::(lo.toList++hi.toList)
 | .sla _ _ x lo hi=>x::(lo.toList++hi.toList)
 | .ext x _=>[x]
 | .len x=>[x]
 | .lens x=>[x]
 | .mm _ _ x y=>[x,y]
 | .mkf _ a b=>a++b
 | .mki _ x=>[x]
 | .nck x=>[x]
 | .bld _ ps=>ps.map fun p=>p.2.2
 | .kro _ _ _ _ _=>[]
 | .kr1 _ _ _ ps=>ps.map fun p=>p.2
 | .ifn _ _ x=>[x]
 | .fnn _ _ x=>[x]
 | .rst x=>[x]
 | .tas _ _ _ x=>[x]
 | .gix _ _ _ _ j=>[j]
 | .lkp _ _ _ m k=>[m,k]
 | .iav _ s j=>[s,j]
 | .lnv x=>[x]
 | .bys x=>[x]
 | .no=>[]
def E.ods:E->List Od
 | .alc _ _=>[]
 | .box _ x=>[x]
 | .bsl _ _ _ _ ps=>ps.map fun p=>p.2
 | .mks _ _ _ _ l c=>[l,c]
 | .app _ _ _ s x=>[s,x]
 | .st _ p x=>[p,x]
 | .stw ws _ p x=>p::x::ws.map Od.t
 | .cpy _ d s=>[d,s]
 | .call f as=>f::as
 | .nil _ _ x=>[x]
 | .sl0 _ _ x=>[x]
 | .snil _ _ x=>[x]
 | .sby x=>[x]
 | .aps _ s x=>[s,x]
 | .flo _ _ _ _ _ l c=>[l,c]
 | .fle _ _ _=>[]
 | .fla _ _ _=>[]
 | .flb _ _ _ _ _ ps=>ps.map fun p=>p.2
 | .pan x=>[x]
 | .calln f as=>f::as
 | .mkm _=>[]
 | .mup _ m k v=>[m,k,v]
def J.slots:J->List Nat
 | .p i=>i.ods.flatMap Od.slots
 | .q f args=>(f::args).flatMap Od.slots
 | .e i=>i.ods.flatMap Od.slots
def Ins.slots (o:Ins):List Nat:=(match o.g with | some (s,_)=>[s] | none=>[])++o.j.slots
def hasD (ts:List Nat):Option Nat->Bool
 | some d=>ts.contains d
 | none=>false
def needed (ts:List Nat):List (Ins×SV)->List Nat
 | []=>ts
 | (p,_)::r=>if hasD ts p.d=true then needed (p.slots++ts) r else needed ts r
def loose (o:Ins) (pend:List (Ins×SV)) (p:Ins):Bool:=p.j.dep && !hasD (needed o.slots pend) p.d
def xd (P:Program) (pend:List (Ins×SV)):List Ins->Env->List AO->(XE->Env->List AO->Prop)->Prop
 | [],env,H,K=>K .normal env H
 | o::r,env,H,K =>
  if o.j.quiet=true then
   match o.g,o.j with
   | none,.p i=>(pv i env.ev H).1∧xd P ((o,(pv i env.ev H).2)::pend) r (env.put o.d (pv i env.ev H).2) H K
   | none,.q f args=>∃ v,OkC P (env.ev f) (args.map env.ev) H (.ret v) H∧xd P ((o,v)::pend) r (env.put o.d v) H K
   | some (s,want),.p i=>(env.get s).bish=true∧((env.get s).on want=true->(pv i env.ev H).1) ∧
    xd P ((o,.gd ((env.get s).on want) (pv i env.ev H).2)::pend) r (env.put o.d (.gd ((env.get s).on want) (pv i env.ev H).2)) H K
   | some (s,want),.q f args=>(env.get s).bish=true∧∃ v,((env.get s).on want=true->OkC P (env.ev f) (args.map env.ev) H (.ret v) H) ∧
    xd P ((o,.gd ((env.get s).on want) v)::pend) r (env.put o.d (.gd ((env.get s).on want) v)) H K
   | _,_=>False
  else xo P o env H fun x env' H' =>
   match x with
   | .normal=>(∀ p∈pend,loose o pend p.1=true->quietV P p.1 env' H' p.2)∧xd P pend r env' H' K
   | x=>K x [] H'
def chkC (P:Program) (N:Nat) (D:Array Oper->List Nat->List Ins->Bool):Code->IC->Bool
 | c,.keep _ a=>chkC P N D c a
 | c,.frz _ a=>chkC P N D c a
 | _,.no=>true
 | .skip,.skip=>true
 | .region _ ops false,.reg l=>ndB ops&&chkL P N ops ops.toList l
 | .region _ ops true,.drw m l=>ndB ops&&(chkP P N ops m l&&(D ops m l&&covB ops l))
 | .region _ ops true,.drf _ m l=>ndB ops&&(chkP P N ops m l&&(D ops m l&&covB ops l))
 | .region _ ops true,.drt n0 m l tl=>ndB ops&&((tailB ops n0&&(n0+tl.length==ops.size))&&(chkL P N ops (ops.toList.drop n0) tl&&(chkP P N (ops.extract 0 n0) m l&&D (ops.extract 0 n0) m l)))
 | .region _ ops true,.drft _ n0 m l tl=>ndB ops&&((tailB ops n0&&(n0+tl.length==ops.size))&&(chkL P N ops (ops.toList.drop n0) tl&&(chkP P N (ops.extract 0 n0) m l&&D (ops.extract 0 n0) m l)))
 | .region _ ops true,.drq _ n0 m l os tl=>ndB ops&&((tailW ops n0&&compB ops os (ops.size-n0) [] (Array.replicate n0 true++Array.replicate (ops.size-n0) false))&&((chkL P N ops (ops.toList.drop n0) tl&&tl.all detI)&&(chkP P N (ops.extract 0 n0) m l&&D (ops.extract 0 n0) m l)))
 | .region _ ops true,.dre os l=>ndB ops&&(chkL P N ops ops.toList l&&(l.all pureI&&compB ops os ops.size [] (Array.replicate ops.size false)))
 | .seq x y,.seq a b=>chkC P N D x a&&chkC P N D y b
 | .cond c x y,.cond c' a b=>chkOd c c'&&chkC P N D x a&&chkC P N D y b
 | .block id x,.blk id' a=>id==id'&&chkC P N D x a
 | .loop x,.loop a=>chkC P N D x a
 | .exit id,.exit id'=>id==id'
 | .ret,.ret=>true
 | .scope x,.scp a=>chkC P N D x a
 | .label _,.lab=>true
 | .rangeFunc g ps a b,.rng _ g' ps' ia ib=>(chkOd g g'&&ps.toList==ps')&&(chkC P N D a ia&&chkC P N D b ib)
 | _,_=>false
def DOk0 (P:Program) (D:Array Oper->List Nat->List Ins->Bool):Prop :=
 ∀ (N:Nat) (ops:Array Oper) (m:List Nat) (l:List Ins) (env:Env) (H:List AO) (K:XE->Env->List AO->Prop),chkP P N ops m l=true->D ops m l=true->xd P [] l env H K →
  ∀ (db:DB) (S:St) (a:Act),S.H=H->Sim S->EnvR S env a.tmps->a.tmps.size=N->db.Ok S.w a.defers->wpAny P .any ops (Post S N db K) ops.size (Array.replicate ops.size false) a S.w.drew
structure DOk (P:Program) (D:Array Oper->List Nat->List Ins->Bool):Prop where
 rs:∀ (n:Nat) (ops:Array Oper) (m:List Nat) (l:List Ins),D ops m l=true->D ops m (l.map (Ins.rs n))=true
 ok:DOk0 P D
 mixed:P.follows .mixedOrders=true
theorem chkIns_rs {P:Program} {N:Nat} {ops:Array Oper} {op:Oper} {o:Ins} (n:Nat) (h:chkIns P N ops op o=true):chkIns P N ops op (o.rs n)=true:=by
 obtain⟨d,g,j⟩:=o
 cases j with
 | p i=>exact h
 | q f as=>exact h
 | e i=>cases i<;>exact h
theorem chkP_rs {P:Program} {N:Nat} {ops:Array Oper} {ns:List Nat} {l:List Ins} (n:Nat) (h:chkP P N ops ns l=true):chkP P N ops ns (l.map (Ins.rs n))=true:=by
 unfold chkP at h ⊢
 rw[List.all_eq_true]at h ⊢
 intro x hx
 rw[List.zip_map_right,List.mem_map]at hx
 obtain⟨y,hy,rfl⟩:=hx
 have:=h y hy
 simp only[Prod.map_fst,id_eq,Prod.map_snd]
 split at this
 · exact chkIns_rs n this
 · cases this
def LoopIn (ro:Option Nat) (P:Program) (c:Code) (Q:Exit->Act->World->Prop) (a:Act) (w:World):Prop :=
 ∀ (b:Frame) (k:List Item) (cs:List Frame),b.roundOf=ro->∃ e a' w',Q e a' w'∧ArrivesIn (Machine.fenced P (Fr ro)) P (lone (b.atR a (.code c::.inLoop c::k)) cs w) b k cs e a' w'
section
variable {ro:Option Nat} {P:Program} {c:Code} {Q:Exit->Act->World->Prop} {a:Act} {w:World}
theorem fr_calm {fr:Frame} {cs:List Frame} {w:World} (h:fr.about P w=none):(lone fr cs w).fenced P (Fr ro):=fenced_calm (n:=0) trivial (fr_room _ _) h
theorem loopIn_wp (h:LoopIn ro P c Q a w):(Code.loop c).wq ro P Q a w:=by
 intro b k cs hro _ _
 obtain⟨e,a',w',hq,harr⟩:=h b k cs hro
 exact⟨e,a',w',hq,.of_steps (.one (fr_calm rfl) stepR_loop) harr⟩
theorem loopIn_round (h:c.wq ro P (Exit.then (LoopIn ro P c Q) Q) a w):LoopIn ro P c Q a w:=by
 intro b k cs hro
 obtain⟨e,a₁,w₁,hq,harr⟩:=h b (.inLoop c::k) cs hro trivial (fr_room _ _)
 cases e with
 | normal =>
  obtain⟨e₂,a₂,w₂,hq₂,harr₂⟩:=hq b k cs hro
  exact⟨e₂,a₂,w₂,hq₂,.of_steps (StepsIn.trans harr (.one (fr_calm rfl) stepR_inLoop)) harr₂⟩
 | exit id=>exact⟨_,a₁,w₁,hq,.pass (x:=.inLoop c) rfl (fun _ _=>.inl (by simp)) harr⟩
 | goto l=>exact⟨_,a₁,w₁,hq,.pass (x:=.inLoop c) rfl (fun _ _=>.inl (by simp)) harr⟩
 | ret=>exact⟨_,a₁,w₁,hq,.pass (x:=.inLoop c) rfl (fun _ _=>.inl (by simp)) harr⟩
 | panic ch=>exact⟨_,a₁,w₁,hq,.pass (x:=.inLoop c) rfl (fun _ _=>.inl (by simp)) harr⟩
 | outgrown=>exact⟨_,a₁,w₁,hq,.pass (x:=.inLoop c) rfl (fun _ _=>.inl (by simp)) harr⟩
theorem loopIn_mono {Q':Exit->Act->World->Prop} (h:LoopIn ro P c Q a w) (hq:∀ e a w,Q e a w->Q' e a w):LoopIn ro P c Q' a w :=
 fun b k cs hro=>let ⟨e,a',w',q,r⟩:=h b k cs hro; ⟨e,a',w',hq _ _ _ q,r⟩
end
def okL (P:Program) (N:Nat) (D:Array Oper->List Nat->List Ins->Bool) (ps:List Nat) (ia ib:IC) (r:Loop):Prop :=
 r.params.toList=ps∧r.tmps.size=N∧chkC P N D r.assign ia=true∧chkC P N D r.body ib=true
def Env.vals (e:Env) (N:Nat):List SV:=(List.range N).map e.get
def lpo (P:Program) (N:Nat) (D:Array Oper->List Nat->List Ins->Bool) (k:Nat) (ps:List Nat) (ia ib:IC) (cs:List SV) (st:LSt):AO:=⟨.lp k (okL P N D ps ia ib) st::cs,0,0,false⟩
def deadL:AO:=⟨[],0,1,false⟩
def LSt.out (K:XE->Env->List AO->Prop) (env:Env) (H:List AO):LSt->Prop
 | .ready=>K .normal env H
 | .busy=>False
 | .ret=>K .ret env H
 | .exit id=>K (.exit id) env H
 | .goto l=>K (.goto l) env H
def LI (P:Program) (N:Nat) (D:Array Oper->List Nat->List Ins->Bool) (i:IC) (env:Env) (H:List AO) (K:XE->Env->List AO->Prop):Prop :=
 ∀ c,chkC P N D c i=true->∀ (db:DB) (S:St) (a:Act),S.H=H->Sim S->EnvR S env a.tmps->a.tmps.size=N->db.Ok S.w a.defers->LoopIn db.ro P c (Post S N db K) a S.w
def WI (P:Program) (N:Nat) (D:Array Oper->List Nat->List Ins->Bool) (i:IC) (env:Env) (H:List AO) (K:XE->Env->List AO->Prop):Prop :=
 ∀ c,chkC P N D c i=true->W P N c env H K
def X (P:Program) (N:Nat) (D:Array Oper->List Nat->List Ins->Bool):IC->Env->List AO->(XE->Env->List AO->Prop)->Prop
 | .skip,env,H,K=>K .normal env H
 | .reg l,env,H,K=>xops P l env H K
 | .drw _ l,env,H,K=>xd P [] l env H fun x e H =>
  match x with
  | .normal=>K .normal e H
  | x=>K x (offE l env) H
 | .drf Ts _ l,env,H,K=>xd P [] (l.map (Ins.rs H.length)) env (H++resd Ts) fun x e H =>
  match x with
  | .normal=>K .normal e H
  | x=>K x (offE l env) H
 | .drt _ _ l tl,env,H,K=>xd P [] l env H fun x env H =>
  match x with
  | .normal=>xops P tl env H K
  | x=>K x env H
 | .drft Ts _ _ l tl,env,H,K=>xd P [] (l.map (Ins.rs H.length)) env (H++resd Ts) fun x env H =>
  match x with
  | .normal=>xops P tl env H K
  | x=>K x env H
 | .dre os l,env,H,K=>xre P l os env H fun x e H=>K x (e.keep (dreK l env)) H
 | .drq Ts n0 _ l os tl,env,H,K=>xd P [] (l.map (Ins.rs H.length)) env (H++resd Ts) fun x env H =>
  match x with
  | .normal=>xrt P n0 tl os env H fun x e H=>K x (e.keep (dreK tl env)) H
  | x=>K x env H
 | .seq a b,env,H,K=>X P N D a env H fun x env H =>
  match x with
  | .normal=>X P N D b env H K
  | x=>K x env H
 | .cond c a b,env,H,K=>(env.ev c).isB=true∧((env.ev c).bool=true->X P N D a env H K)∧((env.ev c).bool=false->X P N D b env H K)
 | .blk id a,env,H,K=>X P N D a env H fun x env H =>
  match x with
  | .exit i=>if i=id then K .normal env H else K (.exit i) env H
  | x=>K x env H
 | .loop a,env,H,K=>LI P N D a env H K
 | .exit id,env,H,K=>K (.exit id) env H
 | .ret,env,H,K=>K .ret env H
 | .keep ks a,env,H,K=>X P N D a (env.keep ks) H K
 | .frz d a,env,H,K=>X P N D a (env.frz H d) (H.map AO.dead) K
 | .rng kk g ps ia ib,env,H,K=>(env.ev g).vd=true∧match (env.ev g).ug with
  | .fn (.func k) first cap=>∃ Pt:Out->List AO->Prop,OkP P k (first++[.yl H.length]++cap) (H++[lpo P N D kk ps ia ib (env.vals N) .ready]) Pt ∧
   ∀ out H',Pt out H'->match out with
    | .ret _=>∃ k' ok st cs,H'[H.length]? = some ⟨.lp k' ok st::cs,0,0,false⟩∧st.out K env (H'.set H.length deadL)
    | .pan x=>K (.panic x) env H'
  | _=>False
 | .scp a,env,H,K=>X P N D a env H fun x env H =>
  match x with
  | .goto _=>False
  | x=>K x env H
 | .lab,env,H,K=>K .normal env H
 | .no,_,_,_=>False
section
variable {P:Program} {N:Nat} {D:Array Oper->List Nat->List Ins->Bool}
theorem W.mono {c:Code} {env:Env} {H:List AO} {K K':XE->Env->List AO->Prop} (h:W P N c env H K) (hk:∀ x env H,K x env H->K' x env H):W P N c env H K':=by
 intro db S a h1 h2 h3 h4 h5
 refine wq_mono (h db S a h1 h2 h3 h4 h5) ?_
 rintro e a w ⟨x,env',ρ,H',g1,g2,g3,g4,g5,g6,g7⟩
 exact⟨x,env',ρ,H',g1,g2,g3,g4,g5,g6,hk _ _ _ g7⟩
theorem W.keep {c:Code} {env:Env} {H:List AO} {K:XE->Env->List AO->Prop} (ks:List Nat) (h:W P N c (env.keep ks) H K):W P N c env H K :=
 fun db S a h1 h2 h3 h4 h5=>h db S a h1 h2 (h3.keep ks) h4 h5
theorem W.frz {c:Code} {env:Env} {H:List AO} {K:XE->Env->List AO->Prop} (d:Nat) (h:W P N c (env.frz H d) (H.map AO.dead) K):W P N c env H K:=by
 intro db S a h1 h2 h3 h4 h5
 subst h1
 obtain⟨ρ,he,hs,hv⟩:=frozen h2 d
 refine wq_mono (h db ⟨ρ,S.H.map AO.dead,S.w⟩ a rfl hs ⟨fun t => ?_⟩ h4 h5) fun e a w h=>Post.trans he h
 rcases frz_get env S.H d t with h6 | h6<;>rw[h6]
 · exact hv _ _ (h3.get t)
 · exact .any _
theorem W.seq {x y:Code} {env:Env} {H:List AO} {K:XE->Env->List AO->Prop}
 (h:W P N x env H fun e env H=>match e with | .normal=>W P N y env H K | e=>K e env H):W P N (.seq x y) env H K:=by
 intro db S a h1 h2 h3 h4 h5
 refine wpIn_seq (wq_mono (h db S a h1 h2 h3 h4 h5) ?_)
 rintro e a' w ⟨xe,env',ρ,H',g1,g2,g3,g4,g5,g6,g7⟩
 cases xe<;>cases e<;>simp only[ER]at g1
 · exact wq_mono (g7 db ⟨ρ,H',w⟩ a' rfl g3 g4 g5 g6) fun e a w h=>Post.trans g2 h
 · exact⟨.exit _,env',ρ,H',g1,g2,g3,g4,g5,g6,g7⟩
 · exact⟨.goto _,env',ρ,H',g1,g2,g3,g4,g5,g6,g7⟩
 · exact⟨.ret,env',ρ,H',g1,g2,g3,g4,g5,g6,g7⟩
 · exact⟨.panic _,env',ρ,H',g1,g2,g3,g4,g5,g6,g7⟩
theorem W.cond {c:Operand} {c':Od} {x y:Code} {env:Env} {H:List AO} {K:XE->Env->List AO->Prop} (hc:chkOd c c'=true) (hb:(env.ev c').isB=true)
 (ht:(env.ev c').bool=true->W P N x env H K) (hf:(env.ev c').bool=false->W P N y env H K):W P N (.cond c x y) env H K:=by
 intro db S a h1 h2 h3 h4 h5
 have e1:=(chkOd_spec hc h3).isB hb
 exact wpIn_cond_split e1 (fun h=>ht h db S a h1 h2 h3 h4 h5) (fun h=>hf h db S a h1 h2 h3 h4 h5)
theorem W.block {id:Nat} {x:Code} {env:Env} {H:List AO} {K:XE->Env->List AO->Prop}
 (h:W P N x env H fun e env H=>match e with | .exit i=>if i=id then K .normal env H else K (.exit i) env H | e=>K e env H):W P N (.block id x) env H K:=by
 intro db S a h1 h2 h3 h4 h5
 refine wpIn_block (wq_mono (h db S a h1 h2 h3 h4 h5) ?_)
 rintro e a' w ⟨xe,env',ρ,H',g1,g2,g3,g4,g5,g6,g7⟩
 cases xe<;>cases e<;>simp only[ER]at g1
 case exit.exit i j =>
  subst g1
  simp only[Exit.inBlock]
  simp only at g7
  by_cases hij:i=id
  · rw[if_pos hij]at g7 ⊢
    exact⟨.normal,env',ρ,H',trivial,g2,g3,g4,g5,g6,g7⟩
  · rw[if_neg hij]at g7 ⊢
    exact⟨.exit i,env',ρ,H',rfl,g2,g3,g4,g5,g6,g7⟩
 · exact⟨.normal,env',ρ,H',g1,g2,g3,g4,g5,g6,g7⟩
 · exact⟨.goto _,env',ρ,H',g1,g2,g3,g4,g5,g6,g7⟩
 · exact⟨.ret,env',ρ,H',g1,g2,g3,g4,g5,g6,g7⟩
 · exact⟨.panic _,env',ρ,H',g1,g2,g3,g4,g5,g6,g7⟩
theorem W.scope {x:Code} {env:Env} {H:List AO} {K:XE->Env->List AO->Prop}
 (h:W P N x env H fun e env H=>match e with | .goto _=>False | e=>K e env H):W P N (.scope x) env H K:=by
 intro db S a h1 h2 h3 h4 h5
 refine wpIn_scope (wq_mono (h db S a h1 h2 h3 h4 h5) ?_)
 rintro e a' w ⟨xe,env',ρ,H',g1,g2,g3,g4,g5,g6,g7⟩
 cases xe<;>cases e<;>simp only[ER]at g1
 · exact⟨trivial,.normal,env',ρ,H',trivial,g2,g3,g4,g5,g6,g7⟩
 · exact⟨trivial,.exit _,env',ρ,H',g1,g2,g3,g4,g5,g6,g7⟩
 · exact g7.elim
 · exact⟨trivial,.ret,env',ρ,H',trivial,g2,g3,g4,g5,g6,g7⟩
 · exact⟨trivial,.panic _,env',ρ,H',g1,g2,g3,g4,g5,g6,g7⟩
theorem Env.vals_rel {S:St} {env:Env} {tmps:Array Value} (h:EnvR S env tmps) (hN:tmps.size=N):VRs S (env.vals N) tmps.toList:=by
 refine⟨by simp[Env.vals,hN],fun j s u h1 h2 => ?_⟩
 have hj:j<N:=by have:=getElem?_lt h2; simp at this; omega
 simp only[Env.vals,List.getElem?_map,List.getElem?_range hj,Option.map_some,Option.some.injEq]at h1
 subst h1
 have h3:=h.get j
 have h4:tmps[j]? = some u:=by simpa using h2
 rwa [Array.getD_eq_getD_getElem?,h4]at h3
theorem enter_lp {S:St} {db:DB} {ds:List Deferred} (hS:Sim S) (hdb:db.Ok S.w ds) (fn:FuncId) {tmps:Array Value} {ps:Array Tmp} {a b:Code} {cs:List SV} {kk:Nat} {ok:Loop->Prop} (hv:VRs S cs tmps.toList)
 (hok:∀ st pe l,ok { state:=st,pending:=pe,fn,tmps,params:=ps,assign:=a,body:=b,defers:=l }) :
 ∃ (l:Nat) (mk:List Deferred) (w1:World) (ρ1:Nat->Option Nat),(Instr.enterLoop fn tmps ps a b db.ro).run P S.w=.ok (l,mk) w1∧ρ1 S.H.length=some l ∧
  Ext S.H.length S ⟨ρ1,S.H++[⟨.lp kk ok .ready::cs,0,0,false⟩],w1⟩∧Sim ⟨ρ1,S.H++[⟨.lp kk ok .ready::cs,0,0,false⟩],w1⟩∧db.Ok w1 (mk++ds):=by
 cases hro:db.ro with
 | none =>
  have h1:=sim_alloc hS (.deferred (some []))
  have e1:=ext_alloc (S:=S) (.deferred (some []))
  have hsz:(S.w.alloc (.deferred (some []))).heap.size=S.w.heap.size+1:=by simp
  obtain⟨r,hr⟩:∃ r:Loop,r={ state:=.ready,pending:=none,fn,tmps,params:=ps,assign:=a,body:=b,defers:=S.w.heap.size }:=⟨_,rfl⟩
  have h2:=sim_newLp (r:=r) (kk:=kk) (ok:=ok) (cs:=cs) (T:=0) h1 (by rw[hr]; exact hok _ _ _) (by rw[hr]; exact⟨rfl,rfl⟩) (by rw[hr]; exact hv.ext e1)
  have e2:=ext_newLp (S:=⟨S.ρ,S.H,S.w.alloc (.deferred (some []))⟩) r ⟨.lp kk ok .ready::cs,0,0,false⟩
  have hd2:=(hdb.ext hS e1).ext h1 e2
  refine⟨S.w.heap.size+1,[mark S.w.heap.size],_,_,?_,?_,e1.trans e2,h2,?_⟩
  · rw[run_enterLoop_outer,hr]; rfl
  · simp only[upd_same,hsz]
  · obtain⟨ms,k1,k2,k3⟩:=hdb.ms
    refine⟨hd2.le,⟨S.w.heap.size::ms,by simp[k1],?_,?_⟩,hd2.ro⟩
    · rw[List.nodup_cons]
      refine⟨fun hm => ?_,k2⟩
      have:=lt_heap (k3 _ hm).2
      omega
    · obtain⟨ms',g1,_,g3⟩:=hd2.ms
      have hmm:ms'=ms:=by
       have:ms'.map mark=ms.map mark:=by
        have:=g1.symm.trans k1
        exact List.append_cancel_right this
       exact List.map_inj_right (fun x y h=>by simpa[mark]using h) |>.1 this
      subst hmm
      intro D hD
      rw[List.mem_cons]at hD
      rcases hD with rfl | hD
      · refine⟨hdb.le,?_⟩
        refine((heap_alloc_lt _ _ ?_).trans (heap_alloc_at S.w _))
        rw[hsz]; omega
      · exact g3 D hD
 | some l0 =>
  obtain⟨r0,hr0⟩:=hdb.ro l0 hro
  obtain⟨r,hr⟩:∃ r:Loop,r={ state:=.ready,pending:=none,fn,tmps,params:=ps,assign:=a,body:=b,defers:=r0.defers }:=⟨_,rfl⟩
  have h2:=sim_newLp (r:=r) (kk:=kk) (ok:=ok) (cs:=cs) (T:=0) hS (by rw[hr]; exact hok _ _ _) (by rw[hr]; exact⟨rfl,rfl⟩) (by rw[hr]; exact hv)
  have e2:=ext_newLp (S:=S) r ⟨.lp kk ok .ready::cs,0,0,false⟩
  refine⟨S.w.heap.size,[],_,_,?_,?_,e2,h2,hdb.ext hS e2⟩
  · rw[run_enterLoop_inner hr0,hr]
  · simp only[upd_same]
theorem W.rng {kk:Nat} {g:Operand} {g':Od} {ps:Array Tmp} {a b:Code} {ia ib:IC} {env:Env} {H:List AO} {K:XE->Env->List AO->Prop} (hg:chkOd g g'=true) (ha:chkC P N D a ia=true) (hb:chkC P N D b ib=true)
 (hvd:(env.ev g').vd=true) {k:FuncId} {first cap:List SV} (hf:(env.ev g').ug=.fn (.func k) first cap) {Pt:Out->List AO->Prop}
 (hok:OkP P k (first++[.yl H.length]++cap) (H++[lpo P N D kk ps.toList ia ib (env.vals N) .ready]) Pt)
 (hK:∀ out H',Pt out H'->match out with
  | .ret _=>∃ k' ok st cs,H'[H.length]? = some ⟨.lp k' ok st::cs,0,0,false⟩∧st.out K env (H'.set H.length deadL)
  | .pan x=>K (.panic x) env H'):W P N (.rangeFunc g ps a b) env H K:=by
 intro db S act h1 h2 h3 h4 h5
 subst h1
 have hgv:=(chkOd_spec hg h3).ug hvd
 rw[hf]at hgv
 obtain⟨us,vs,hv,hus,hvs⟩:=hgv.fn_inv
 refine wpIn_rangeFunc fun fn _ => ?_
 obtain⟨l,mk,w1,ρ1,he,hl,hext,hsim,hdb⟩:=enter_lp (P:=P) (a:=a) (b:=b) (ps:=ps) h2 h5 fn (cs:=env.vals N) (kk:=kk) (ok:=okL P N D ps.toList ia ib) (Env.vals_rel h3 h4) (fun st pe l=>⟨rfl,h4,ha,hb⟩)
 change Ext S.H.length S ⟨ρ1,S.H++[lpo P N D kk ps.toList ia ib (env.vals N) .ready],w1⟩at hext
 change Sim ⟨ρ1,S.H++[lpo P N D kk ps.toList ia ib (env.vals N) .ready],w1⟩at hsim
 obtain⟨o1,ho1⟩:∃ o1,o1=lpo P N D kk ps.toList ia ib (env.vals N) .ready:=⟨_,rfl⟩
 rw[←ho1]at hext hsim hok
 have hat:(S.H++[o1])[S.H.length]? = some o1:=by simp
 obtain⟨y,hyv⟩:∃ y:Value,y=.func (.yield l) #[] #[]:=⟨_,rfl⟩
 have hy:VRs (⟨ρ1,S.H++[o1],w1⟩:St) [.yl S.H.length] [y]:=by
  rw[hyv]
  exact VRs.cons (VR.yl (S:=⟨ρ1,S.H++[o1],w1⟩) S.H.length l o1 hat fun _=>hl) (VRs.nil _)
 have hcalls:=hok.2 ⟨ρ1,S.H++[o1],w1⟩ (us++[y]++vs) rfl hsim (((hus.ext hext).append hy).append (hvs.ext hext))
 refine⟨l,mk,w1,{ target:=.fn (.func k) vs.toArray,args:=us.toArray ++ #[y] },w1,k,(us++[y]++vs).toArray,w1,he,?_,fun _ _=>trivial,?_,fr_one,callsIn_wide.2 (hcalls.mono ?_)⟩
 · simp only[resolve,hv,Deferred.ofValue,Sem.run_pure,hyv,List.map_toArray,List.map_cons,List.map_nil,eval_const]
 · have e1:us.toArray ++ #[y]++vs.toArray=(us++[y]++vs).toArray:=by apply Array.ext'; simp
   simp only[invoke]
   rw[e1,hok.1]
 rintro e w3 ⟨out,H',v,ρ3,hpt,hext3,hsim3,hout⟩
 have hE:=hext.trans (hext3.mono (hext.len (Nat.le_refl _)))
 have hd3:=hdb.ext hsim hext3
 cases out with
 | pan x =>
  obtain⟨rfl,hx⟩:=hout
  exact⟨.panic x,env,ρ3,H',⟨v,rfl,hx⟩,hE,hsim3,h3.ext hE,h4,hd3,hK _ _ hpt⟩
 | ret r =>
  obtain⟨rfl,hx⟩:=hout
  obtain⟨k',ok',st,cs,hH,hst⟩:=hK _ _ hpt
  obtain⟨l',r,k1,k2,k3,k4,k5⟩:=hsim3.loop hH
  have hll:l'=l:=by
   obtain⟨o',g1,g2,g3⟩:=hext3.obj S.H.length o1 (by simp) hat
   have g4:o'=⟨.lp k' ok' st::cs,0,0,false⟩:=by rw[show(⟨ρ3,H',w3⟩:St).H=H' from rfl,hH]at g1; cases g1; rfl
   have:=g3 (by rw[g4,ho1]; rfl)
   simp only at this k1
   rw[k1,hl]at this
   exact(Option.some.inj this)
  subst hll
  have hnb:r.state≠.busy:=by
   intro hbz
   cases st<;>simp only[LpSt,hbz]at k4<;>first | exact hst | (obtain⟨k4,_⟩:=k4; cases k4)
  have hend:=run_endLoop (P:=P) k2 hnb
  obtain⟨ext4,sim4⟩:=turn_lp hsim3 (o':=deadL) (r':={ r with state:=.exhausted }) hH rfl (by simp) k1 k2 rfl (by simp[deadL]) (.inl rfl)
  obtain⟨w4,hw4⟩:∃ w4,w4=w3.putObj l' (.loop { r with state:=.exhausted }):=⟨_,rfl⟩
  simp only at hend ext4 sim4
  rw[←hw4]at hend ext4 sim4
  have hE4:=hE.trans (ext4.mono (hE.len (Nat.le_refl _)))
  have hd4:=hd3.ext hsim3 ext4
  have fin:∀ x e,ER ⟨ρ3,H'.set S.H.length deadL,w4⟩ x e->K x env (H'.set S.H.length deadL)->Post S N db K e { act with defers:=mk++act.defers } w4 :=
   fun x e hx hk=>⟨x,env,ρ3,_,hx,hE4,sim4,h3.ext hE4,h4,hd4,hk⟩
  refine⟨r.pending,_,hend,?_⟩
  cases st with
  | ready=>rw[k4.2]; exact fin .normal .normal trivial hst
  | busy=>exact hst.elim
  | ret=>rw[k4.2]; exact wpIn_ret (fin .ret .ret trivial hst)
  | exit id=>rw[k4.2]; exact wpIn_exit (fin (.exit id) (.exit id) rfl hst)
  | goto j=>rw[k4.2]; exact wpIn_goto (fin (.goto j) (.goto j) rfl hst)
theorem X_sound (hD:DOk P D) (i:IC):∀ {env:Env} {H:List AO} {K:XE->Env->List AO->Prop} {c:Code},chkC P N D c i=true->X P N D i env H K->W P N c env H K:=by
 induction i with
 | skip =>
  intro env H K c hc h
  cases c<;>simp only[chkC,Bool.false_eq_true]at hc
  intro db S a h1 h2 h3 h4 h5
  subst h1
  exact wpIn_skip ⟨.normal,env,S.ρ,S.H,trivial,Ext.refl _ S,h2,h3,h4,h5,h⟩
 | reg l =>
  intro env H K c hc h
  obtain⟨id,ops,rfl,hnd,hc⟩:∃ id ops,c=.region id ops false∧ndB ops=true∧chkL P N ops ops.toList l=true:=by
   cases c with
   | region id ops dr=>cases dr<;>simp[chkC]at hc; exact⟨id,ops,rfl,hc⟩
   | _=>simp[chkC]at hc
  intro db S a h1 h2 h3 h4 h5
  subst h1
  exact wp_region_list hnd (xops_sound _ _ h2 h3 h4 h5 hc h)
 | drw m l =>
  intro env H K c hc h
  obtain⟨id,ops,rfl,hnd,hcc⟩:∃ id ops,c=.region id ops true∧ndB ops=true∧(chkP P N ops m l=true∧D ops m l=true∧covB ops l=true):=by
   cases c with
   | region id ops dr=>cases dr<;>simp[chkC]at hc; exact⟨id,ops,rfl,hc⟩
   | _=>simp[chkC]at hc
  intro db S a h1 h2 h3 h4 h5
  exact wq_mono (wp_region_any hnd hD.mixed (wpAny_off _ _ _ _ (hD.ok N ops m l env H _ hcc.1 hcc.2.1 h db S a h1 h2 h3 h4 h5) fun t _=>rfl)) fun e a' w' hq=>Post.off h3 hcc.2.2 hq
 | drf Ts m l =>
  intro env H K c hc h
  obtain⟨id,ops,rfl,hnd,hcc⟩:∃ id ops,c=.region id ops true∧ndB ops=true∧(chkP P N ops m l=true∧D ops m l=true∧covB ops l=true):=by
   cases c with
   | region id ops dr=>cases dr<;>simp[chkC]at hc; exact⟨id,ops,rfl,hc⟩
   | _=>simp[chkC]at hc
  intro db S a h1 h2 h3 h4 h5
  subst h1
  obtain⟨ρ,he,hs⟩:=reserve Ts h2
  exact wq_mono (wp_region_any hnd hD.mixed (wpAny_off _ _ _ _ (hD.ok N ops m _ env _ _ (chkP_rs _ hcc.1) (hD.rs _ ops m l hcc.2.1) h db ⟨ρ,S.H++resd Ts,S.w⟩ a rfl hs (h3.ext he) h4 h5) fun t _=>rfl)) fun e a' w hq=>Post.trans he (Post.off (h3.ext he) hcc.2.2 hq)
 | drt n0 m l tl =>
  intro env H K c hc h
  obtain⟨id,ops,rfl,hnd,⟨h1,h2⟩,h3,h4,h5⟩:∃ id ops,c=.region id ops true∧ndB ops=true∧(tailB ops n0=true∧n0+tl.length=ops.size)∧chkL P N ops (ops.toList.drop n0) tl=true∧chkP P N (ops.extract 0 n0) m l=true∧D (ops.extract 0 n0) m l=true:=by
   cases c with
   | region id ops dr =>
    cases dr
    · simp[chkC]at hc
    · simp only[chkC,Bool.and_eq_true,beq_iff_eq]at hc
      exact⟨id,ops,rfl,hc.1,hc.2.1,hc.2.2.1,hc.2.2.2⟩
   | _=>simp[chkC]at hc
  intro db S a g1 g2 g3 g4 g5
  have ht:=tail_of h1
  have hxs:(ops.extract 0 n0).size=n0:=by have:=ht.le; simp; omega
  have h6:=hD.ok N (ops.extract 0 n0) m l env H _ h4 h5 h db S a g1 g2 g3 g4 g5
  rw[hxs]at h6
  have hnone:∀ n i,(Array.replicate n false).getD i false=false:=by
   intro n i
   rw[Array.getD_eq_getD_getElem?,Array.getElem?_replicate]
   split<;>rfl
  have h7:=wpAny_tail ht.wt (Q:=Post S N db K) ?_ ?_ n0 (Array.replicate n0 false) (Array.replicate ops.size false) a S.w.drew (by simp) (by simp) (fun i _=>by rw[hnone,hnone]) (fun i _=>hnone _ _) (fun j o hj=>by rw[hnone]at hj; cases hj) h6
  · rw[show n0+(ops.size-n0)=ops.size by omega]at h7
    exact wp_region_any hnd hD.mixed h7
  · rintro e a w hne ⟨x,env',ρ,H',k1,k2,k3,k4,k5,k6,k7⟩
    cases x<;>cases e<;>simp only[ER]at k1
    · exact absurd rfl hne
    · exact⟨.exit _,env',ρ,H',k1,k2,k3,k4,k5,k6,k7⟩
    · exact⟨.goto _,env',ρ,H',k1,k2,k3,k4,k5,k6,k7⟩
    · exact⟨.ret,env',ρ,H',k1,k2,k3,k4,k5,k6,k7⟩
    · exact⟨.panic _,env',ρ,H',k1,k2,k3,k4,k5,k6,k7⟩
  · rintro fuel listed a w j1 j2 j3 j4 ⟨x,env',ρ,H',k1,k2,k3,k4,k5,k6,k7⟩
    cases x<;>simp only[ER]at k1
    exact tail_run ht tl fuel n0 listed ⟨ρ,H',w⟩ env' a (Nat.le_refl _) h2 (by omega) j2 j3 j4 h3 k2 k3 k4 k5 k6 k7
 | drq Ts n0 m l os tl =>
  intro env H K c hc h
  obtain⟨id,ops,rfl,hnd,⟨h1,h2⟩,⟨h3,h3p⟩,h4,h5⟩:∃ id ops,c=.region id ops true∧ndB ops=true∧(tailW ops n0=true∧compB ops os (ops.size-n0) [] (Array.replicate n0 true++Array.replicate (ops.size-n0) false)=true)∧(chkL P N ops (ops.toList.drop n0) tl=true∧tl.all detI=true)∧chkP P N (ops.extract 0 n0) m l=true∧D (ops.extract 0 n0) m l=true:=by
   cases c with
   | region id ops dr =>
    cases dr
    · simp[chkC]at hc
    · simp only[chkC,Bool.and_eq_true]at hc
      exact⟨id,ops,rfl,hc.1,hc.2.1,hc.2.2.1,hc.2.2.2⟩
   | _=>simp[chkC]at hc
  intro db S a g1 g2 g3 g4 g5
  subst g1
  obtain⟨ρ0,he0,hs0⟩:=reserve Ts g2
  have ht:=tailW_of h1
  have hle:=ht.le
  have hxs:(ops.extract 0 n0).size=n0:=by simp; omega
  have h6:=hD.ok N (ops.extract 0 n0) m _ env _ _ (chkP_rs _ h4) (hD.rs _ _ m l h5) h db ⟨ρ0,S.H++resd Ts,S.w⟩ a rfl hs0 (g3.ext he0) g4 g5
  rw[hxs]at h6
  have hnone:∀ n i,(Array.replicate n false).getD i false=false:=by
   intro n i
   rw[Array.getD_eq_getD_getElem?,Array.getElem?_replicate]
   split<;>rfl
  have h7:=wpAny_tail ht (Q:=Post ⟨ρ0,S.H++resd Ts,S.w⟩ N db K) ?_ ?_ n0 (Array.replicate n0 false) (Array.replicate ops.size false) a S.w.drew (by simp) (by simp) (fun i _=>by rw[hnone,hnone]) (fun i _=>hnone _ _) (fun j o hj=>by rw[hnone]at hj; cases hj) h6
  · rw[show n0+(ops.size-n0)=ops.size by omega]at h7
    exact wq_mono (wp_region_any hnd hD.mixed h7) fun e a' w hq=>Post.trans he0 hq
  · rintro e a w hne ⟨x,env',ρ,H',k1,k2,k3,k4,k5,k6,k7⟩
    cases x<;>cases e<;>simp only[ER]at k1
    · exact absurd rfl hne
    · exact⟨.exit _,env',ρ,H',k1,k2,k3,k4,k5,k6,k7⟩
    · exact⟨.goto _,env',ρ,H',k1,k2,k3,k4,k5,k6,k7⟩
    · exact⟨.ret,env',ρ,H',k1,k2,k3,k4,k5,k6,k7⟩
    · exact⟨.panic _,env',ρ,H',k1,k2,k3,k4,k5,k6,k7⟩
  · rintro fuel listed a w j1 j2 j3 j4 ⟨x,env',ρ,H',k1,k2,k3,k4,k5,k6,k7⟩
    cases x<;>simp only[ER]at k1
    have hls:listed=Array.replicate n0 true++Array.replicate (ops.size-n0) false:=by
     refine Array.ext_getElem? fun i => ?_
     by_cases hi:i<ops.size
     · have e1:listed[i]? = some (decide (i<n0)):=by
        have hi':i<listed.size:=by omega
        rw[Array.getElem?_eq_getElem hi']
        by_cases h:i<n0
        · have:=j3 i h
          rw[Array.getD_eq_getD_getElem?,Array.getElem?_eq_getElem hi']at this
          simpa[h]using this
        · have:=j4 i (by omega)
          rw[Array.getD_eq_getD_getElem?,Array.getElem?_eq_getElem hi']at this
          simpa[h]using this
       rw[e1,Array.getElem?_append]
       simp only[Array.size_replicate,Array.getElem?_replicate]
       by_cases h:i<n0
       · simp[h]
       · simp[h]; omega
     · rw[Array.getElem?_eq_none (by omega),Array.getElem?_eq_none (by simp; omega)]
    obtain⟨d,hd⟩:∃ d,fuel=(ops.size-n0)+d:=⟨fuel-(ops.size-n0),by omega⟩
    have h8:wpAny P .any ops (Post ⟨ρ0,S.H++resd Ts,S.w⟩ N db fun x e H=>K x (e.keep (dreK tl env')) H) fuel listed a w :=
     drq_sound h3 h3p fuel [] listed ⟨ρ,H',w⟩ env' a (by rw[hls,hd]; exact compB_add h2 d) j2 j3 (fun rest hm=>xrt_all k7 rest (by simpa using hm)) k2 k3 k4 k5 k6
    refine wpAny_post (fun e a w hh => ?_) _ _ _ _ h8
    obtain⟨x,env2,ρ2,H2,q1,q2,q3,q4,q5,q6,q7⟩:=hh
    exact⟨x,env2.keep (dreK tl env'),ρ2,H2,q1,q2,q3,q4.keep _,q5,q6,q7⟩
 | drft Ts n0 m l tl =>
  intro env H K c hc h
  obtain⟨id,ops,rfl,hnd,⟨h1,h2⟩,h3,h4,h5⟩:∃ id ops,c=.region id ops true∧ndB ops=true∧(tailB ops n0=true∧n0+tl.length=ops.size)∧chkL P N ops (ops.toList.drop n0) tl=true∧chkP P N (ops.extract 0 n0) m l=true∧D (ops.extract 0 n0) m l=true:=by
   cases c with
   | region id ops dr =>
    cases dr
    · simp[chkC]at hc
    · simp only[chkC,Bool.and_eq_true,beq_iff_eq]at hc
      exact⟨id,ops,rfl,hc.1,hc.2.1,hc.2.2.1,hc.2.2.2⟩
   | _=>simp[chkC]at hc
  intro db S a g1 g2 g3 g4 g5
  subst g1
  obtain⟨ρ0,he0,hs0⟩:=reserve Ts g2
  have ht:=tail_of h1
  have hxs:(ops.extract 0 n0).size=n0:=by have:=ht.le; simp; omega
  have h6:=hD.ok N (ops.extract 0 n0) m _ env _ _ (chkP_rs _ h4) (hD.rs _ _ m l h5) h db ⟨ρ0,S.H++resd Ts,S.w⟩ a rfl hs0 (g3.ext he0) g4 g5
  rw[hxs]at h6
  have hnone:∀ n i,(Array.replicate n false).getD i false=false:=by
   intro n i
   rw[Array.getD_eq_getD_getElem?,Array.getElem?_replicate]
   split<;>rfl
  have h7:=wpAny_tail ht.wt (Q:=Post ⟨ρ0,S.H++resd Ts,S.w⟩ N db K) ?_ ?_ n0 (Array.replicate n0 false) (Array.replicate ops.size false) a S.w.drew (by simp) (by simp) (fun i _=>by rw[hnone,hnone]) (fun i _=>hnone _ _) (fun j o hj=>by rw[hnone]at hj; cases hj) h6
  · rw[show n0+(ops.size-n0)=ops.size by omega]at h7
    exact wq_mono (wp_region_any hnd hD.mixed h7) fun e a' w hq=>Post.trans he0 hq
  · rintro e a w hne ⟨x,env',ρ,H',k1,k2,k3,k4,k5,k6,k7⟩
    cases x<;>cases e<;>simp only[ER]at k1
    · exact absurd rfl hne
    · exact⟨.exit _,env',ρ,H',k1,k2,k3,k4,k5,k6,k7⟩
    · exact⟨.goto _,env',ρ,H',k1,k2,k3,k4,k5,k6,k7⟩
    · exact⟨.ret,env',ρ,H',k1,k2,k3,k4,k5,k6,k7⟩
    · exact⟨.panic _,env',ρ,H',k1,k2,k3,k4,k5,k6,k7⟩
  · rintro fuel listed a w j1 j2 j3 j4 ⟨x,env',ρ,H',k1,k2,k3,k4,k5,k6,k7⟩
    cases x<;>simp only[ER]at k1
    exact tail_run ht tl fuel n0 listed ⟨ρ,H',w⟩ env' a (Nat.le_refl _) h2 (by omega) j2 j3 j4 h3 k2 k3 k4 k5 k6 k7
 | dre os l =>
  intro env H K c hc h
  obtain⟨id,ops,rfl,hnd,h1,h2,h3⟩:∃ id ops,c=.region id ops true∧ndB ops=true∧chkL P N ops ops.toList l=true∧l.all pureI=true∧compB ops os ops.size [] (Array.replicate ops.size false)=true:=by
   cases c with
   | region id ops dr =>
    cases dr
    · simp[chkC]at hc
    · simp only[chkC,Bool.and_eq_true]at hc
      exact⟨id,ops,rfl,hc⟩
   | _=>simp[chkC]at hc
  intro db S a g1 g2 g3 g4 g5
  subst g1
  have hS':=sim_same g2 (w':=S.w.drew) rfl rfl rfl rfl
  have hE':=ext_same (S:=S) (w':=S.w.drew) rfl rfl rfl rfl
  refine wq_mono ?_ fun e a w (h:Post S N db (fun x e H=>K x (e.keep (dreK l env)) H) e a w)=>by
   obtain⟨x,env',ρ,H',k1,k2,k3,k4,k5,k6,k7⟩:=h
   exact⟨x,env'.keep (dreK l env),ρ,H',k1,k2,k3,k4.keep _,k5,k6,k7⟩
  exact wp_region_any hnd hD.mixed (dre_sound h1 h2 ops.size [] _ ⟨S.ρ,S.H,S.w.drew⟩ env a h3 (by simp) (fun rest hm=>xre_all h rest (by simpa using hm)) hE' hS' (g3.ext hE') g4 g5.drew)
 | seq a b iha ihb =>
  intro env H K c hc h
  cases c<;>simp only[chkC,Bool.false_eq_true,Bool.and_eq_true]at hc
  refine W.seq ((iha hc.1 h).mono ?_)
  intro x env H hk
  cases x<;>first | exact hk | exact ihb hc.2 hk
 | cond c' a b iha ihb =>
  intro env H K c hc h
  cases c<;>simp only[chkC,Bool.false_eq_true,Bool.and_eq_true]at hc
  exact W.cond hc.1.1 h.1 (fun hb=>iha hc.1.2 (h.2.1 hb)) (fun hb=>ihb hc.2 (h.2.2 hb))
 | blk id a iha =>
  intro env H K c hc h
  cases c<;>simp only[chkC,Bool.false_eq_true,Bool.and_eq_true,beq_iff_eq]at hc
  obtain⟨rfl,hc⟩:=hc
  exact W.block (iha hc h)
 | loop a iha =>
  intro env H K c hc h
  cases c<;>simp only[chkC,Bool.false_eq_true]at hc
  intro db S a h1 h2 h3 h4 h5
  exact loopIn_wp (h _ hc db S a h1 h2 h3 h4 h5)
 | exit id =>
  intro env H K c hc h
  cases c<;>simp only[chkC,Bool.false_eq_true,beq_iff_eq]at hc
  subst hc
  intro db S a h1 h2 h3 h4 h5
  subst h1
  exact wpIn_exit ⟨.exit _,env,S.ρ,S.H,rfl,Ext.refl _ S,h2,h3,h4,h5,h⟩
 | ret =>
  intro env H K c hc h
  cases c<;>simp only[chkC,Bool.false_eq_true]at hc
  intro db S a h1 h2 h3 h4 h5
  subst h1
  exact wpIn_ret ⟨.ret,env,S.ρ,S.H,trivial,Ext.refl _ S,h2,h3,h4,h5,h⟩
 | scp a iha =>
  intro env H K c hc h
  cases c<;>simp only[chkC,Bool.false_eq_true]at hc
  exact W.scope (iha hc h)
 | lab =>
  intro env H K c hc h
  cases c<;>simp only[chkC,Bool.false_eq_true]at hc
  intro db S a h1 h2 h3 h4 h5
  subst h1
  exact wpIn_label ⟨.normal,env,S.ρ,S.H,trivial,Ext.refl _ S,h2,h3,h4,h5,h⟩
 | keep ks a iha =>
  intro env H K c hc h
  exact(iha (by simpa only[chkC]using hc) h).keep ks
 | frz d a iha =>
  intro env H K c hc h
  exact(iha (by simpa only[chkC]using hc) h).frz d
 | rng kk g' ps' ia ib _ _ =>
  intro env H K c hc h
  cases c<;>simp only[chkC,Bool.false_eq_true,Bool.and_eq_true,beq_iff_eq]at hc
  rename_i g ps a b
  obtain⟨⟨hg,rfl⟩,ha,hb⟩:=hc
  obtain⟨hvd,h⟩:=h
  split at h
  · rename_i k first cap hf
    obtain⟨Pt,hok,hK⟩:=h
    exact W.rng hg ha hb hvd hf hok hK
  · exact h.elim
 | no=>intro env H K c hc h; exact h.elim
theorem LI.round (hD:DOk P D) {i:IC} {env:Env} {H:List AO} {K:XE->Env->List AO->Prop}
 (h:X P N D i env H fun x env H=>match x with | .normal=>LI P N D i env H K | x=>K x env H):LI P N D i env H K:=by
 intro c hc db S a h1 h2 h3 h4 h5
 refine loopIn_round (wq_mono (X_sound hD i hc h db S a h1 h2 h3 h4 h5) ?_)
 rintro e a' w ⟨xe,env',ρ,H',g1,g2,g3,g4,g5,g6,g7⟩
 cases xe<;>cases e<;>simp only[ER]at g1
 · exact loopIn_mono (g7 c hc db ⟨ρ,H',w⟩ a' rfl g3 g4 g5 g6) fun e a w h=>Post.trans g2 h
 · exact⟨.exit _,env',ρ,H',g1,g2,g3,g4,g5,g6,g7⟩
 · exact⟨.goto _,env',ρ,H',g1,g2,g3,g4,g5,g6,g7⟩
 · exact⟨.ret,env',ρ,H',g1,g2,g3,g4,g5,g6,g7⟩
 · exact⟨.panic _,env',ρ,H',g1,g2,g3,g4,g5,g6,g7⟩
end
end Go.Ab
namespace Go.Ab
variable [GlobEnv] [FrEnv] [KnEnv]
inductive RS where
 | t (n:Nat)
 | c1 (slot:Nat)
 | cn (slot n:Nat)
def RS.side (e:Env) (H:List AO):RS->Prop
 | .t _=>True
 | .c1 s=>(e.get s).vd=true∧0<((e.get s).ug.at H).length
 | .cn s n=>(e.get s).vd=true∧n≤((e.get s).ug.at H).length∧0<n
def RS.ev (e:Env) (H:List AO):RS->SV
 | .t n=>e.get n
 | .c1 s=>((e.get s).ug.at H).headD .any
 | .cn s n=>.agg (((e.get s).ug.at H).take n)
def resV (e:Env) (H:List AO) (rs:List RS):SV :=
 match rs.map (RS.ev e H)with
 | [x]=>x
 | l=>.tup l
def chkRs (P:Program):ResultVar->RS->Bool
 | .tmp t,.t n=>t==n
 | .cell t T,.c1 s=>t==s&&oneB P T
 | .cell t T,.cn s n=>t==s&&aggB P T&&sizeB P T n
 | _,_=>false
def chkRes (P:Program):List ResultVar->List RS->Bool
 | [],[]=>true
 | x::r,y::s=>chkRs P x y&&chkRes P r s
 | _,_=>false
def Cv (n0:Nat) (r1:SV) (H1:List AO) (r:SV) (H':List AO):Prop :=
 ∀ (S:St) (v:Value),S.H=H1->Sim S->VR S r1 v->∃ ρ',Ext n0 S ⟨ρ',H',S.w⟩∧Sim ⟨ρ',H',S.w⟩∧VR ⟨ρ',H',S.w⟩ r v
def Fin (n0:Nat) (rs:List RS) (out:Out) (H':List AO):XE->Env->List AO->Prop:=fun x env H1 =>
 match x,out with
 | .normal,.ret r=>(∀ s∈rs,s.side env H1)∧Cv n0 (resV env H1 rs) H1 r H'
 | .ret,.ret r=>(∀ s∈rs,s.side env H1)∧Cv n0 (resV env H1 rs) H1 r H'
 | .panic x,.pan y=>Cv n0 x H1 y H'
 | _,_=>False
def argsEnv (l:List SV):Env:=(List.range l.length).zip l
section
variable {P:Program} {S:St} {N:Nat} {D:Array Oper->List Nat->List Ins->Bool}
theorem zip_get (l:List SV) (k t:Nat):Env.get ((List.range' k l.length).zip l) t=if k≤t∧t<k+l.length then l.getD (t-k) .any else .any:=by
 induction l generalizing k with
 | nil=>simp[Env.get]
 | cons x r ih =>
  simp only[List.length_cons,List.range'_succ,List.zip_cons_cons,Env.get]
  rw[ih]
  by_cases h:k=t
  · subst h; simp
  · rw[if_neg h]
    by_cases h1:k+1≤t∧t<k+1+r.length
    · rw[if_pos h1,if_pos (by omega)]
      have:t-k=(t-(k+1))+1:=by omega
      rw[this]; simp
    · rw[if_neg h1,if_neg (by omega)]
theorem argsEnv_rel {args:List SV} {vs:List Value} (h:VRs S args vs) (m:Nat):EnvR S (argsEnv args) (vs.toArray++Array.replicate m undef):=by
 refine⟨fun t => ?_⟩
 unfold argsEnv
 rw[List.range_eq_range',zip_get]
 by_cases ht:0≤t∧t<0+args.length
 · rw[if_pos ht]
   obtain⟨u,h1,h2⟩:=h.getD (j:=t) (by omega)
   have hlt:t<vs.length:=getElem?_lt h1
   rw[Array.getD_eq_getD_getElem?,Array.getElem?_append]
   rw[if_pos (by simpa using hlt)]
   simp only[List.getElem?_toArray,h1,Option.getD_some,Nat.sub_zero]; exact h2
 · rw[if_neg ht]; exact .any _
def readRes (tmps:Array Value):ResultVar->Sem Value
 | .tmp t=>pure (tmps.getD t undef)
 | .cell a t=>do loadVar t (← asAddr (tmps.getD a undef))
theorem results_eq (fn:Func) (tmps:Array Value):results fn tmps=(do
 let vs <- fn.results.mapM (readRes tmps)
 pure (if h:vs.size=1 then vs[0]else .tuple vs)):=by
 unfold results
 congr 1
theorem run_res {e:Env} {tmps:Array Value} (hS:Sim S) (he:EnvR S e tmps):∀ {rvs:List ResultVar} {rs:List RS},chkRes P rvs rs=true->(∀ s∈rs,s.side e S.H) →
 ∃ vs,(rvs.mapM (readRes tmps)).run P S.w=.ok vs S.w∧VRs S (rs.map (RS.ev e S.H)) vs
 | [],[],_,_=>⟨[],rfl,VRs.nil S⟩
 | [],_::_,h,_=>by simp[chkRes]at h
 | _::_,[],h,_=>by simp[chkRes]at h
 | x::rvs,y::rs,h,hs=>by
  simp only[chkRes,Bool.and_eq_true]at h
  obtain⟨vs,h1,h2⟩:=run_res hS he h.2 (fun s hm=>hs s (by simp[hm]))
  have h3:=hs y (by simp)
  have h4:=h.1
  unfold chkRs at h4
  split at h4
  · rename_i t n
    simp at h4; subst h4
    refine⟨tmps.getD t undef::vs,?_,VRs.cons (he.get _) h2⟩
    simp[List.mapM_cons,h1,readRes]
  · rename_i t T s
    simp only[Bool.and_eq_true,beq_iff_eq]at h4
    obtain⟨rfl,h4⟩:=h4
    obtain⟨g1,g2⟩:=h3
    have h5:=(he.get t).ug g1
    obtain⟨u,h6,h7⟩:=run_ld1 (P:=P) hS h5 h4 g2
    have h0:((e.get t).ug.at S.H)[0]? = some ((e.get t).ug.at S.H)[0]:=List.getElem?_eq_getElem g2
    obtain⟨ad,_,h8,_,_⟩:=h5.at hS h0
    refine⟨u::vs,?_,VRs.cons h7 h2⟩
    rw[h8]at h6
    simp only[Instr.loadAt,Instr.sureAddr,Sem.run_bind,Sem.run_pure,Result.andThen_ok]at h6
    rw[List.mapM_cons,readRes,Sem.run_bind,Sem.run_bind,h8]
    simp only[asAddr,Sem.run_pure,Result.andThen_ok,h6,Sem.run_bind,h1]
  · rename_i t T s n
    simp only[Bool.and_eq_true,beq_iff_eq]at h4
    obtain⟨⟨rfl,h4⟩,h4'⟩:=h4
    obtain⟨g1,g2,g3⟩:=h3
    have h5:=(he.get t).ug g1
    obtain⟨u,h6,h7⟩:=run_ldn (P:=P) hS h5 h4 h4' g2 g3
    have h0:((e.get t).ug.at S.H)[0]? = some (((e.get t).ug.at S.H)[0]'(by omega)):=List.getElem?_eq_getElem (by omega)
    obtain⟨ad,_,h8,_,_⟩:=h5.at hS h0
    refine⟨u::vs,?_,VRs.cons h7 h2⟩
    rw[h8]at h6
    simp only[Instr.loadAt,Instr.sureAddr,Sem.run_bind,Sem.run_pure,Result.andThen_ok]at h6
    rw[List.mapM_cons,readRes,Sem.run_bind,Sem.run_bind,h8]
    simp only[asAddr,Sem.run_pure,Result.andThen_ok,h6,Sem.run_bind,h1]
  · cases h4
theorem run_results {fn:Func} {e:Env} {tmps:Array Value} (hS:Sim S) (he:EnvR S e tmps) {rs:List RS} (hc:chkRes P fn.results.toList rs=true) (hs:∀ s∈rs,s.side e S.H) :
 ∃ v,(results fn tmps).run P S.w=.ok v S.w∧VR S (resV e S.H rs) v:=by
 obtain⟨vs,h1,h2⟩:=run_res hS he hc hs
 have h3:∃ arr:Array Value,arr=vs.toArray∧(results fn tmps).run P S.w=.ok (if h:arr.size=1 then arr[0]else .tuple arr) S.w:=by
  refine⟨vs.toArray,rfl,?_⟩
  rw[results_eq,Array.mapM_eq_mapM_toList]
  simp only[Sem.run_bind,Sem.run_map,h1,Result.andThen_ok,Sem.run_pure]
 obtain⟨arr,rfl,h3⟩:=h3
 refine⟨_,h3,?_⟩
 unfold resV
 revert h2
 generalize rs.map (RS.ev e S.H)=l
 intro h2
 match l,vs,h2 with
 | [],[],h2=>exact VR.of_tup h2
 | [x],[v],h2=>exact h2.2 0 x v rfl rfl
 | x::y::r,v::u::s,h2 =>
  rw[dif_neg (by simp)]
  exact VR.of_tup h2
 | [],_::_,h2=>simp[VRs]at h2
 | [_],[],h2=>simp[VRs]at h2
 | [_],_::_::_,h2=>simp[VRs]at h2
 | _::_::_,[],h2=>simp[VRs]at h2
 | _::_::_,[_],h2=>simp[VRs]at h2
structure Turned (n0:Nat) (w w':World):Prop where
 size:w'.heap.size=w.heap.size
 at_:∀ k,w'.heap[k]? = w.heap[k]? ∨ (n0≤k∧w.heap[k]? = some (Obj.deferred (some []))∧w'.heap[k]? = some (Obj.deferred none))
 os:w'.os=w.os
 tape:w'.tape=w.tape
 output:w'.output=w.output
theorem turned_extV {n0:Nat} {ρ:Nat->Option Nat} {H:List AO} {w w':World} (h:Turned n0 w w'):ExtV H.length ⟨ρ,H,w⟩ ⟨ρ,H,w'⟩:=by
 refine⟨fun i o _ ho=>⟨o,ho,Nat.le_refl _,fun _=>rfl⟩,fun k c T f hk hn=>⟨?_,hn⟩,fun k T m hs => ?_,fun k es cl hk hn=>⟨?_,hn⟩⟩
 · rcases h.at_ k with h1 | ⟨_,h1,_⟩
   · exact h1
   · rw[show(⟨ρ,H,w⟩:St).w.heap[k]? = w.heap[k]? from rfl,h1]at hk; cases hk
 · unfold World.shape? at *
   rcases h.at_ k with h1 | ⟨_,h1,_⟩
   · simp only at hs ⊢; rw[h1]; exact hs
   · simp only at hs; rw[h1]at hs; cases hs
 · rcases h.at_ k with h1 | ⟨_,h1,_⟩
   · exact h1
   · rw[show(⟨ρ,H,w⟩:St).w.heap[k]? = w.heap[k]? from rfl,h1]at hk; cases hk
theorem turned_sim {n0:Nat} {ρ:Nat->Option Nat} {H:List AO} {w w':World} (h:Turned n0 w w') (hS:Sim ⟨ρ,H,w⟩):Sim ⟨ρ,H,w'⟩:=by
 have hv:=turned_extV (ρ:=ρ) (H:=H) h
 have hvs:∀ {l:List SV} {us:List Value},VRs ⟨ρ,H,w⟩ l us->VRs ⟨ρ,H,w'⟩ l us:=fun h=>⟨h.1,fun j s u h1 h2=>(h.2 j s u h1 h2).extV hv (.inl rfl)⟩
 refine⟨fun i o ho hl => ?_,hS.bel,hS.inj,fun i o ho hl hc => ?_,hS.gl.extV hv,hS.kf.extV hv⟩
 · have h1:=hS.live i o ho hl
   simp only at h1 ⊢
   cases hρ:ρ i with
   | none=>rw[hρ]at h1; exact h1
   | some b =>
    rw[hρ]at h1
    obtain⟨us,rest,h2,h3⟩:=h1
    refine⟨us,rest,?_,hvs h3⟩
    rcases h.at_ b with h4 | ⟨_,h4,_⟩
    · rw[h4]; exact h2
    · rw[h4]at h2; cases h2
 · obtain⟨l,x,m,us,env,k1,k2,k3,k4,k6⟩:=hS.lp i o ho hl hc
   refine⟨l,x,m,us,env,k1,k2,?_,k4,hvs k6⟩
   simp only at k3 ⊢
   rcases h.at_ l with h4 | ⟨_,h4,_⟩
   · rw[h4]; exact k3
   · rw[h4]at k3; cases k3; rcases k4.kind with ⟨r,e⟩ | ⟨es,cl,e⟩<;>cases e
theorem turned_ext {n n0:Nat} {S0:St} {ρ:Nat->Option Nat} {H:List AO} {w w':World} (h:Turned n0 w w') (he:Ext n S0 ⟨ρ,H,w⟩) (hn:S0.w.heap.size≤n0):Ext n S0 ⟨ρ,H,w'⟩:=by
 refine⟨he.obj,fun k hk hnr => ?_,by have:=he.size; simp only[h.size]; exact this,fun k T m hs => ?_,fun k r hr => ?_,h.os.trans he.os,h.tape.trans he.tape,h.output.trans he.output⟩
 · obtain⟨h1,h2⟩:=he.imm k hk hnr
   refine⟨?_,h2⟩
   rcases h.at_ k with h3 | ⟨h3,_,_⟩
   · exact h3.trans h1
   · omega
 · exact(turned_extV (ρ:=ρ) (H:=H) h).shape k T m (he.shape k T m hs)
 · obtain⟨r',h1⟩:=he.loops k r hr
   rcases h.at_ k with h3 | ⟨_,h3,_⟩
   · exact⟨r',h3.trans h1⟩
   · simp only at h1; rw[h3]at h1; cases h1
theorem marks_leave {fn:Func} {tmps:Array Value} {R:Ending->World->Prop} {n0:Nat} {u:FrameMode} (hu:u≠.run):∀ (ms:List Nat) (w:World),ms.Nodup->(∀ D∈ms,n0≤D∧w.heap[D]? = some (Obj.deferred (some []))) →
 (∀ w',Turned n0 w w'->LeavesIn (Fr none) 0 P fn tmps R [] u w')->LeavesInM (Fr none) 0 P fn tmps R (ms.map mark) u w
 | [],w,_,_,h=>h w ⟨rfl,fun _=>.inl rfl,rfl,rfl,rfl⟩
 | D::ms,w,hnd,hms,h=>by
  rw[List.nodup_cons]at hnd
  obtain⟨h1,h2⟩:=hms D (by simp)
  refine⟨hu,.inl ⟨D,_,rfl,run_takeDeferred h2,?_⟩⟩
  refine marks_leave hu ms _ hnd.2 (fun D' hD'=>⟨(hms D' (by simp[hD'])).1,?_⟩) fun w' ht=>h w' ?_
  · have hne:D'≠D:=fun e=>hnd.1 (e ▸ hD')
    exact(World.putObj_heap_other hne).trans (hms D' (by simp[hD'])).2
  · refine⟨by rw[ht.size]; simp,fun k => ?_,ht.os,ht.tape,ht.output⟩
    by_cases hk:k=D
    · subst hk
      right
      refine⟨h1,h2,?_⟩
      rcases ht.at_ k with h3 | ⟨_,h3,h4⟩
      · exact h3.trans (World.putObj_heap_same (lt_heap h2))
      · exact h4
    · rcases ht.at_ k with h3 | ⟨h3,h4,h5⟩
      · exact .inl (h3.trans (World.putObj_heap_other hk))
      · exact .inr ⟨h3,(World.putObj_heap_other hk).symm.trans h4,h5⟩
def FinQ (n0:Nat) (Pt:Out->List AO->Prop) (v:SV) (H1:List AO):Prop:=∃ r H',Pt (.ret r) H'∧Cv n0 v H1 r H'
def FinP (n0:Nat) (rs:List RS) (Pt:Out->List AO->Prop) (x:XE) (env:Env) (H1:List AO):Prop :=
 match x with
 | .normal=>(∀ s∈rs,s.side env H1)∧FinQ n0 Pt (resV env H1 rs) H1
 | .ret=>(∀ s∈rs,s.side env H1)∧FinQ n0 Pt (resV env H1 rs) H1
 | .panic x=>∃ y H',Pt (.pan y) H'∧Cv n0 x H1 y H'
 | _=>False
theorem okP_W {f:FuncId} {fn:Func} {c:Code} {rs:List RS} {args:List SV} {H:List AO} {Pt:Out->List AO->Prop} (hf:P.funcs[f]? = some fn) (hb:fn.body=some c)
 (hname : (fn.name == "runtime.NumGoroutine") = false) (hn : args.length ≤ fn.ntmps) (hr : chkRes P fn.results.toList rs = true)
 (hx:closed H->W P fn.ntmps c (argsEnv args) H (FinP H.length rs Pt)):OkP P f args H Pt:=by
 refine⟨fun vs w=>Go.MuLone.run_callFunc_enter hf hname hb vs w,?_⟩
 intro S vs hH hS hvs
 subst hH
 refine callsIn_wide.1 (callsIn_of_wp_marks (F:=Fr none) (n:=0) hf hb trivial ?_)
 have hl:vs.length=args.length:=hvs.1
 have hw:=hx hS.closed ⟨S.w.heap.size,[],none⟩ S ⟨vs.toArray++Array.replicate (fn.ntmps-vs.toArray.size) undef,[]⟩ rfl hS (argsEnv_rel hvs _) (by simp; omega) ⟨Nat.le_refl _,⟨[],rfl,List.nodup_nil,fun D hD=>by simp at hD⟩,fun l h=>by cases h⟩
 refine wq_mono hw ?_
 rintro e a w ⟨x,env,ρ,H1,g1,g2,g3,g4,g5,g6,g7⟩
 obtain⟨ms,m1,m2,m3⟩:=g6.ms
 simp only[List.append_nil]at m1
 have env':∀ w',Turned S.w.heap.size w w'->EnvR ⟨ρ,H1,w'⟩ env a.tmps:=fun w' ht=>⟨fun t=>(g4.get t).extV (turned_extV ht) (.inl rfl)⟩
 have ret:((∀ s∈rs,s.side env H1)∧FinQ S.H.length Pt (resV env H1 rs) H1) →
  LeavesInM (Fr none) 0 P fn a.tmps (fun e w'=>∃ (out:Out) (H':List AO) (v:Value) (ρ':Nat->Option Nat),Pt out H'∧Ext S.H.length S ⟨ρ',H',w'⟩∧Sim ⟨ρ',H',w'⟩ ∧
  match out with
  | .ret r=>e=.returned v∧VR ⟨ρ',H',w'⟩ r v
  | .pan x=>e=.panicked [{ v:=v,recovered:=false }]∧VR ⟨ρ',H',w'⟩ x v) a.defers .returning w:=by
  rintro⟨h1,r,H',hp,h2⟩
  rw[m1]
  refine marks_leave (by simp) ms w m2 m3 fun w' ht => ?_
  obtain⟨v,h3,h4⟩:=run_results (P:=P) (S:=⟨ρ,H1,w'⟩) (turned_sim ht g3) (env' w' ht) hr h1
  obtain⟨ρ',h5,h6,h7⟩:=h2 ⟨ρ,H1,w'⟩ v rfl (turned_sim ht g3) h4
  exact⟨v,h3,.ret r,H',v,ρ',hp,(turned_ext ht g2 (Nat.le_refl _)).trans h5,h6,rfl,h7⟩
 cases x<;>cases e<;>simp only[ER]at g1
 · exact ret g7
 · exact g7.elim
 · exact g7.elim
 · exact ret g7
 · obtain⟨y,H',hp,hcv⟩:=g7
   obtain⟨v,rfl,hv⟩:=g1
   show LeavesInM _ _ _ _ _ _ _ _ _
   rw[m1]
   refine marks_leave (by simp) ms w m2 m3 fun w' ht => ?_
   obtain⟨ρ',h5,h6,h7⟩:=hcv ⟨ρ,H1,w'⟩ v rfl (turned_sim ht g3) (hv.extV (turned_extV ht) (.inl rfl))
   exact⟨.pan y,H',v,ρ',hp,(turned_ext ht g2 (Nat.le_refl _)).trans h5,h6,rfl,h7⟩
theorem okP_of (hD:DOk P D) {f:FuncId} {fn:Func} {c:Code} {i:IC} {rs:List RS} {args:List SV} {H:List AO} {Pt:Out->List AO->Prop} (hf:P.funcs[f]? = some fn) (hb:fn.body=some c)
 (hname : (fn.name == "runtime.NumGoroutine") = false) (hn : args.length ≤ fn.ntmps) (hc : chkC P fn.ntmps D c i = true) (hr : chkRes P fn.results.toList rs = true)
 (hx:closed H->X P fn.ntmps D i (argsEnv args) H (FinP H.length rs Pt)):OkP P f args H Pt :=
 okP_W hf hb hname hn hr fun hcl=>X_sound hD i hc (hx hcl)
theorem OkP.toOk {f:FuncId} {args:List SV} {H:List AO} {out:Out} {H':List AO} (h:OkP P f args H fun o h=>o=out∧h=H'):Ok P f args H out H':=by
 refine⟨h.1,fun S vs h1 h2 h3=>(h.2 S vs h1 h2 h3).mono ?_⟩
 rintro e w ⟨o,h',v,ρ',⟨rfl,rfl⟩,h4⟩
 exact⟨v,ρ',h4⟩
theorem fin_P {n0:Nat} {rs:List RS} {out:Out} {H':List AO} {x:XE} {env:Env} {H1:List AO} (h:Fin n0 rs out H' x env H1):FinP n0 rs (fun o h=>o=out∧h=H') x env H1:=by
 cases x<;>cases out<;>first | exact h.elim | exact⟨h.1,_,_,⟨rfl,rfl⟩,h.2⟩ | exact⟨_,_,⟨rfl,rfl⟩,h⟩
theorem ok_of (hD:DOk P D) {f:FuncId} {fn:Func} {c:Code} {i:IC} {rs:List RS} {args:List SV} {H:List AO} {out:Out} {H':List AO} (hf:P.funcs[f]? = some fn) (hb:fn.body=some c)
 (hname : (fn.name == "runtime.NumGoroutine") = false) (hn : args.length ≤ fn.ntmps) (hc : chkC P fn.ntmps D c i = true) (hr : chkRes P fn.results.toList rs = true)
 (hx:closed H->X P fn.ntmps D i (argsEnv args) H (Fin H.length rs out H')):Ok P f args H out H' :=
 (okP_W hf hb hname hn hr fun hcl=>(X_sound hD i hc (hx hcl)).mono fun x env H1 h=>fin_P h).toOk
end
end Go.Ab
namespace Go.Ab
variable [GlobEnv] [FrEnv] [KnEnv]
theorem opt_map_congr {lo:Option Od} {g g':Od->SV} (h:∀ x∈lo.toList,g x=g' x):lo.map g=lo.map g':=by
 cases lo with
 | none=>rfl
 | some x=>simp[h x (by simp)]
theorem pv_congr (i:I) (g g':Od->SV) (H:List AO) (h:∀ x∈i.ods,g x=g' x):pv i g H=pv i g' H:=by
 cases i with
 | sl sz x lo hi =>
  simp only[I.ods,List.mem_cons,List.mem_append]at h
  have h1:=h x (.inl rfl)
  have h2:=opt_map_congr (lo:=lo) fun y hy=>h y (.inr (.inl hy))
  have h3:=opt_map_congr (lo:=hi) fun y hy=>h y (.inr (.inr hy))
  simp only[pv,h1,h2,h3]
 | sls x lo hi =>
  simp only[I.ods,List.mem_cons,List.mem_append]at h
  have h1:=h x (.inl rfl)
  have h2:=opt_map_congr (lo:=lo) fun y hy=>h y (.inr (.inl hy))
  have h3:=opt_map_congr (lo:=hi) fun y hy=>h y (.inr (.inr hy))
  simp only[pv,h1,h2,h3]
 | sla n sz x lo hi =>
  simp only[I.ods,List.mem_cons,List.mem_append]at h
  have h1:=h x (.inl rfl)
  have h2:=opt_map_congr (lo:=lo) fun y hy=>h y (.inr (.inl hy))
  have h3:=opt_map_congr (lo:=hi) fun y hy=>h y (.inr (.inr hy))
  simp only[pv,h1,h2,h3]
 | mkf f a b =>
  simp only[I.ods,List.mem_append]at h
  have h1:a.map g=a.map g':=List.map_congr_left fun x hx=>h x (.inl hx)
  have h2:b.map g=b.map g':=List.map_congr_left fun x hx=>h x (.inr hx)
  simp only[pv,h1,h2]
 | kr1 T len z ps =>
  simp only[I.ods,List.mem_map]at h
  have h1:∀ p∈ps,g p.2=g' p.2:=fun p hp=>h _ ⟨p,hp,rfl⟩
  have h2:(ps.map fun p=>(p.1*1,g p.2))=ps.map fun p=>(p.1*1,g' p.2):=List.map_congr_left fun p hp=>by rw[h1 p hp]
  have h3:(∀ p∈ps,p.1*1+1≤len*1∧partOk 1 (g p.2))=∀ p∈ps,p.1*1+1≤len*1∧partOk 1 (g' p.2):=by
   apply propext
   constructor
   · intro hh p hp; rw[←h1 p hp]; exact hh p hp
   · intro hh p hp; rw[h1 p hp]; exact hh p hp
  simp only[pv,h2,h3]
 | bld z ps =>
  simp only[I.ods,List.mem_map]at h
  have h1:∀ p∈ps,g p.2.2=g' p.2.2:=fun p hp=>h _ ⟨p,hp,rfl⟩
  have h2:(ps.map fun p=>(p.1,g p.2.2))=ps.map fun p=>(p.1,g' p.2.2):=List.map_congr_left fun p hp=>by rw[h1 p hp]
  have h3:(∀ p∈ps,partOk p.2.1 (g p.2.2)∧p.1+p.2.1≤z.length)=∀ p∈ps,partOk p.2.1 (g' p.2.2)∧p.1+p.2.1≤z.length:=by
   apply propext
   constructor
   · intro hh p hp; rw[←h1 p hp]; exact hh p hp
   · intro hh p hp; rw[h1 p hp]; exact hh p hp
  simp only[pv,h2,h3]
 | _=>simp only[I.ods,List.mem_cons,List.not_mem_nil,or_false,forall_eq_or_imp,forall_eq]at h; simp only[pv,h]
theorem xe_congr {i:E} {g g':Od->SV} {H:List AO} {K K':SV->List AO->Prop} (h:∀ x∈i.ods,g x=g' x) (hk:∀ v H,K v H->K' v H) (hx:xe i g H K):xe i g' H K':=by
 cases i with
 | alc T z=>exact hk _ _ hx
 | box T x =>
  simp only[E.ods,List.mem_cons,List.not_mem_nil,or_false,forall_eq]at h
  simp only[xe,<- h]at *
  exact⟨hx.1,hx.2.1,hk _ _ hx.2.2⟩
 | bsl T sz len z ps =>
  simp only[E.ods,List.mem_map]at h
  have h1:∀ p∈ps,g p.2=g' p.2:=fun p hp=>h _ ⟨p,hp,rfl⟩
  have h2:(ps.map fun p=>(p.1*sz,g p.2))=ps.map fun p=>(p.1*sz,g' p.2):=List.map_congr_left fun p hp=>by rw[h1 p hp]
  simp only[xe,<- h2]at *
  exact⟨fun p hp=>by rw[←h1 p hp]; exact hx.1 p hp,hx.2.1,hk _ _ hx.2.2⟩
 | mks T sz by_ z l c =>
  simp only[E.ods,List.mem_cons,List.not_mem_nil,or_false,forall_eq_or_imp,forall_eq]at h
  simp only[xe,<- h.1,<- h.2]at *
  obtain⟨a1,a2,a3,a4,a5,a6,a7⟩:=hx
  exact⟨a1,a2,a3,a4,a5,a6,hk _ _ a7⟩
 | app T sz by_ s x =>
  simp only[E.ods,List.mem_cons,List.not_mem_nil,or_false,forall_eq_or_imp,forall_eq]at h
  simp only[xe,<- h.1,<- h.2]at *
  obtain⟨a1,a2,a3,a4,a5,a6,a7,a8⟩:=hx
  refine⟨a1,a2,a3,a4,a5,a6,a7,?_⟩
  split
  · rename_i hs
    rw[hs]at a8
    exact⟨a8.1,a8.2.1,hk _ _ a8.2.2⟩
  · rename_i hs
    split at a8
    · rename_i hs'; exact absurd hs' (hs _ _ _ _)
    · exact⟨a8.1,hk _ _ a8.2⟩
 | st n p x =>
  simp only[E.ods,List.mem_cons,List.not_mem_nil,or_false,forall_eq_or_imp,forall_eq]at h
  simp only[xe,<- h.1,<- h.2]at *
  obtain⟨a1,a2,a3,a4,a5,a6⟩:=hx
  refine⟨a1,a2,a3,a4,a5,?_⟩
  split
  · rename_i hs
    rw[hs]at a6
    exact⟨a6.1,hk _ _ a6.2⟩
  · rename_i hs
    split at a6
    · rename_i hs'; exact absurd hs' (hs _ _ _ _ _ _)
    · exact a6
 | stw ws n p x =>
  simp only[E.ods,List.mem_cons,forall_eq_or_imp]at h
  simp only[xe,<- h.1,<- h.2.1]at *
  obtain⟨a1,a2,a3,a4,a5,a6⟩:=hx
  refine⟨a1,a2,a3,a4,a5,?_⟩
  split
  · rename_i hs
    rw[hs]at a6
    exact⟨a6.1,hk _ _ a6.2⟩
  · rename_i hs
    split at a6
    · rename_i hs'; exact absurd hs' (hs _ _ _ _ _ _)
    · exact a6
 | cpy sz d s =>
  simp only[E.ods,List.mem_cons,List.not_mem_nil,or_false,forall_eq_or_imp,forall_eq]at h
  simp only[xe,<- h.1,<- h.2]at *
  obtain⟨a1,a2,a3,a4,a5,a6⟩:=hx
  refine⟨a1,a2,a3,a4,a5,?_⟩
  split
  · rename_i hs
    rw[hs]at a6
    exact⟨a6.1,a6.2.1,a6.2.2.1,hk _ _ a6.2.2.2⟩
  · rename_i hs
    split at a6
    · rename_i hs'; exact absurd hs' (hs _ _ _ _ _)
    · exact a6
 | call f as=>exact hx.elim
 | pan x=>exact hx.elim
 | calln f as=>exact hx.elim
 | mkm T=>exact hk _ _ hx
 | mup kk m k v =>
  simp only[E.ods,List.mem_cons,List.not_mem_nil,or_false,forall_eq_or_imp,forall_eq]at h
  simp only[xe,<- h.1,<- h.2.1,<- h.2.2]at *
  obtain⟨a1,a2,a3,a4⟩:=hx
  refine⟨a1,a2,a3,?_⟩
  split at a4
  · exact⟨a4.1,a4.2.1,hk _ _ a4.2.2⟩
  · exact a4.elim
 | nil T sz x =>
  simp only[E.ods,List.mem_cons,List.not_mem_nil,or_false,forall_eq]at h
  simp only[xe,<- h]at *
  exact⟨hx.1,hx.2.1,hk _ _ hx.2.2⟩
 | sl0 T sz x =>
  simp only[E.ods,List.mem_cons,List.not_mem_nil,or_false,forall_eq]at h
  simp only[xe,<- h]at *
  exact⟨hx.1,hx.2.1,hk _ _ hx.2.2⟩
 | flo i T sz by_ z l c =>
  simp only[E.ods,List.mem_cons,List.not_mem_nil,or_false,forall_eq_or_imp,forall_eq]at h
  simp only[xe,<- h.1,<- h.2]at *
  obtain⟨a1,a2,a3,a4,a5,a6,a8,a7⟩:=hx
  exact⟨a1,a2,a3,a4,a5,a6,a8,hk _ _ a7⟩
 | fle i T sz=>exact⟨hx.1,hk _ _ hx.2⟩
 | fla i T z=>exact⟨hx.1,hk _ _ hx.2⟩
 | flb i T sz len z ps =>
  simp only[E.ods,List.mem_map]at h
  have h1:∀ p∈ps,g p.2=g' p.2:=fun p hp=>h _ ⟨p,hp,rfl⟩
  have h2:(ps.map fun p=>(p.1*sz,g p.2))=ps.map fun p=>(p.1*sz,g' p.2):=List.map_congr_left fun p hp=>by rw[h1 p hp]
  simp only[xe,<- h2]at *
  exact⟨fun p hp=>by rw[←h1 p hp]; exact hx.1 p hp,hx.2.1,hx.2.2.1,hk _ _ hx.2.2.2⟩
 | aps T s x =>
  simp only[E.ods,List.mem_cons,List.not_mem_nil,or_false,forall_eq_or_imp,forall_eq]at h
  simp only[xe,<- h.1,<- h.2]at *
  obtain⟨a1,a2,a3,a8⟩:=hx
  refine⟨a1,a2,a3,?_⟩
  split
  · rename_i hs
    rw[hs]at a8
    exact⟨a8.1,a8.2.1,hk _ _ a8.2.2⟩
  · rename_i hs
    split at a8
    · rename_i hs'; exact absurd hs' (hs _ _ _ _)
    · exact⟨a8.1,hk _ _ a8.2⟩
 | sby x =>
  simp only[E.ods,List.mem_cons,List.not_mem_nil,or_false,forall_eq]at h
  simp only[xe,<- h]at *
  exact⟨hx.1,hk _ _ hx.2⟩
 | snil neg right x =>
  simp only[E.ods,List.mem_cons,List.not_mem_nil,or_false,forall_eq]at h
  simp only[xe,<- h]at *
  exact⟨hx.1,hx.2.1,fun h0=>hk _ _ (hx.2.2.1 h0),fun h0=>⟨hk _ _ (hx.2.2.2 h0).1,hk _ _ (hx.2.2.2 h0).2⟩⟩
theorem ev_congr {e e':Env} {x:Od} (h:∀ t∈x.slots,e'.get t=e.get t):e'.ev x=e.ev x:=by
 cases x with
 | t n=>exact h n (by simp[Od.slots])
 | c s=>rfl
theorem quietV_congr {P:Program} {o:Ins} {env env':Env} {H:List AO} {v:SV} (h:quietV P o env H v) (hk:∀ t∈o.slots,env'.get t=env.get t):quietV P o env' H v:=by
 have hg:∀ s w,o.g=some (s,w)->env'.get s=env.get s:=by
  intro s w hs
  exact hk s (by simp[Ins.slots,hs])
 have hp:∀ i,o.j=.p i->pv i env'.ev H=pv i env.ev H:=by
  intro i hi
  refine pv_congr i _ _ H fun x hx=>ev_congr fun t ht=>hk t ?_
  simp only[Ins.slots,hi,J.slots,List.mem_append,List.mem_flatMap]
  exact .inr ⟨x,hx,ht⟩
 have hq:∀ f args,o.j=.q f args->env'.ev f=env.ev f∧args.map env'.ev=args.map env.ev:=by
  intro f args hq
  constructor
  · refine ev_congr fun t ht=>hk t ?_
    simp only[Ins.slots,hq,J.slots,List.mem_append,List.mem_flatMap]
    exact .inr ⟨f,by simp,ht⟩
  · refine List.map_congr_left fun x hx=>ev_congr fun t ht=>hk t ?_
    simp only[Ins.slots,hq,J.slots,List.mem_append,List.mem_flatMap]
    exact .inr ⟨x,by simp[hx],ht⟩
 unfold quietV at *
 cases hog:o.g with
 | none =>
  rw[hog]at h
  cases hoj:o.j with
  | p i=>rw[hoj]at h; simp only at h ⊢; rw[hp i hoj]; exact h
  | q f args=>rw[hoj]at h; simp only at h ⊢; rw[(hq f args hoj).1,(hq f args hoj).2]; exact h
  | e i=>rw[hoj]at h; exact h.elim
 | some sw =>
  obtain⟨s,want⟩:=sw
  rw[hog]at h
  simp only at h ⊢
  rw[hg s want hog]
  refine⟨h.1,?_⟩
  have h2:=h.2
  cases hoj:o.j with
  | p i=>rw[hoj]at h2; simp only at h2 ⊢; rw[hp i hoj]; exact h2
  | q f args=>rw[hoj]at h2; simp only at h2 ⊢; rw[(hq f args hoj).1,(hq f args hoj).2]; exact h2
  | e i=>rw[hoj]at h2; exact h2.elim
theorem xo_of_quietV {P:Program} {o:Ins} {env:Env} {H:List AO} {v:SV} {K:XE->Env->List AO->Prop} (h:quietV P o env H v) (hk:K .normal (env.put o.d v) H):xo P o env H K:=by
 unfold quietV at h
 unfold xo
 cases hog:o.g with
 | none =>
  rw[hog]at h
  simp only
  unfold xj
  cases hoj:o.j with
  | p i=>rw[hoj]at h; obtain⟨h1,rfl⟩:=h; exact⟨h1,hk⟩
  | q f args=>rw[hoj]at h; exact⟨v,h,hk⟩
  | e i=>rw[hoj]at h; exact h.elim
 | some sw =>
  obtain⟨s,want⟩:=sw
  rw[hog]at h
  simp only at h ⊢
  refine⟨h.1,?_⟩
  have h2:=h.2
  cases hoj:o.j with
  | p i=>rw[hoj]at h2; obtain⟨h3,rfl⟩:=h2; exact⟨h3,hk⟩
  | q f args=>rw[hoj]at h2; obtain⟨r,h3,rfl⟩:=h2; exact⟨r,h3,hk⟩
  | e i=>rw[hoj]at h2; exact h2.elim
def maskOf (acc:List Nat) (o:Oper):Nat:=o.after.toList.foldl (fun s e=>if Region.binds .any e then s ||| (2 ^ e.on ||| acc.getD e.on 0)else s) 0
def masks:List Oper->List Nat->List Nat
 | [],acc=>acc
 | o::r,acc=>masks r (acc++[maskOf acc o])
theorem masks_length:∀ (l:List Oper) (acc:List Nat),(masks l acc).length=acc.length+l.length
 | [],acc=>by simp[masks]
 | o::r,acc=>by simp[masks,masks_length r]; omega
theorem masks_prefix:∀ (l:List Oper) (acc:List Nat) (j:Nat),j<acc.length->(masks l acc)[j]? = acc[j]?
 | [],acc,j,_=>rfl
 | o::r,acc,j,h=>by
  rw[masks,masks_prefix r _ j (by simp; omega),List.getElem?_append_left h]
theorem masks_at:∀ (l:List Oper) (acc:List Nat) (j:Nat) (o:Oper),l[j]? = some o →
 ∃ pre:List Nat,pre.length=acc.length+j∧(masks l acc)[acc.length+j]? = some (maskOf pre o)∧∀ k,k<acc.length+j->pre[k]? = (masks l acc)[k]?
 | [],acc,j,o,h=>by simp at h
 | o'::r,acc,0,o,h=>by
  simp at h; subst h
  refine⟨acc,rfl,?_,fun k hk => ?_⟩
  · rw[masks,masks_prefix r _ _ (by simp)]; simp
  · rw[masks_prefix _ _ _ (by omega)]
 | o'::r,acc,j+1,o,h=>by
  obtain⟨pre,h1,h2,h3⟩:=masks_at r (acc++[maskOf acc o']) j o (by simpa using h)
  refine⟨pre,by rw[h1]; simp; omega,?_,fun k hk => ?_⟩
  · rw[masks]; rw[←h2]; congr 1; simp; omega
  · rw[masks]; exact h3 k (by simp; omega)
theorem foldl_bits (acc:List Nat) (i:Nat):∀ (l:List Edge) (s:Nat),(l.foldl (fun s e=>if Region.binds .any e then s ||| (2 ^ e.on ||| acc.getD e.on 0)else s) s).testBit i=true →
 s.testBit i=true∨∃ e∈l,Region.binds .any e=true∧(i=e.on∨(acc.getD e.on 0).testBit i=true)
 | [],s,h=>.inl h
 | e::r,s,h=>by
  simp only[List.foldl_cons]at h
  rcases foldl_bits acc i r _ h with h1 | ⟨e',h1,h2⟩
  · by_cases hb:Region.binds .any e=true
    · rw[if_pos hb]at h1
      simp only[Nat.testBit_or,Bool.or_eq_true]at h1
      rcases h1 with h1 | h1 | h1
      · exact .inl h1
      · refine .inr ⟨e,by simp,hb,.inl ?_⟩
        rw[Nat.testBit_two_pow]at h1
        simpa using (of_decide_eq_true h1).symm
      · exact .inr ⟨e,by simp,hb,.inr h1⟩
    · rw[if_neg hb]at h1; exact .inl h1
  · exact .inr ⟨e',by simp[h1],h2⟩
def Closed (ops:Array Oper) (L:Nat->Prop):Prop:=∀ (j:Nat) (o:Oper),L j->ops[j]? = some o->∀ e∈o.after.toList,Region.binds .any e=true->L e.on
def Waits (ops:Array Oper) (L:Nat->Prop) (j:Nat):Prop:=∀ (o:Oper),ops[j]? = some o->∀ e∈o.after.toList,Region.binds .any e=true->L e.on
theorem mask_listed {ops:Array Oper} {L:Nat->Prop} (hL:Closed ops L):∀ (j:Nat),Waits ops L j->∀ i b,(masks ops.toList [])[j]? = some b->b.testBit i=true->L i:=by
 intro j
 induction j using Nat.strongRecOn with
 | _ j ih =>
  intro hw i b hb hi
  have hj:j<ops.toList.length:=by have:=getElem?_lt hb; rw[masks_length]at this; simpa using this
  obtain⟨pre,h1,h2,h3⟩:=masks_at ops.toList [] j ops.toList[j] (List.getElem?_eq_getElem hj)
  simp only[List.length_nil,Nat.zero_add]at h1 h2 h3
  rw[hb]at h2
  cases h2
  unfold maskOf at hi
  rcases foldl_bits pre i _ 0 hi with h | ⟨e,he,hbd,h⟩
  · simp at h
  · have ho:ops[j]? = some ops.toList[j]:=by simp[Array.getElem?_eq_getElem (by simpa using hj)]
    have hon:=hw _ ho e he hbd
    rcases h with h | h
    · rw[h]; exact hon
    · have hlt:e.on<pre.length:=by
       rcases Nat.lt_or_ge e.on pre.length with h4 | h4
       · exact h4
       · rw[List.getD_eq_getElem?_getD,List.getElem?_eq_none h4]at h; simp at h
      rw[List.getD_eq_getElem?_getD,List.getElem?_eq_getElem hlt]at h
      have h5:=h3 e.on (by omega)
      rw[List.getElem?_eq_getElem hlt]at h5
      exact ih e.on (by omega) (fun o ho' e' he' hb'=>hL e.on o hon ho' e' he' hb') i _ h5.symm h
def beforeB (B:List Nat) (i j:Nat):Bool:=(B.getD j 0).testBit i
def drawB0 (ops:Array Oper) (ns:List Nat) (l:List Ins):Bool :=
 let B:=masks ops.toList []
 let n:=l.length
 let L:=ns.zip l
 (n==ops.size)&&(ns.length==n)&&((List.range n).all fun i=>ns.contains i) &&
 ((List.range n).all fun i=>((ops.getD i default).after.toList.all fun e => !Region.binds .any e||decide (e.on<i))) &&
 (L.zipIdx.all fun x=>L.zipIdx.all fun y =>
  (match x.1.2.d with
   | none=>true
   | some d=>(x.2==y.2||y.1.2.d != some d)&&(!y.1.2.slots.contains d||(beforeB B x.1.1 y.1.1&&decide (x.2<y.2)))) &&
  (x.1.2.j.quiet||decide (y.2≤x.2)||beforeB B x.1.1 y.1.1)&&(x.2==y.2||x.1.1 != y.1.1))
end Go.Ab
namespace Go.Ab
variable [GlobEnv] [FrEnv] [KnEnv]
def putAll:Env->List Ins->List SV->Env
 | e,o::r,v::vs=>putAll (e.put o.d v) r vs
 | e,_,_=>e
theorem put_get_ne {e:Env} {d:Option Nat} {v:SV} {t:Nat} (h:d≠some t):(e.put d v).get t=e.get t:=by
 cases d with
 | none=>rfl
 | some d=>simp only[Env.put,Env.get]; rw[if_neg (fun e=>h (by rw[e]))]
theorem put_get_eq {e:Env} {v:SV} {t:Nat}:(e.put (some t) v).get t=v:=by simp[Env.put,Env.get]
theorem putAll_not:∀ (os:List Ins) (vs:List SV) (e:Env) (t:Nat),(∀ o∈os,o.d≠some t)->(putAll e os vs).get t=e.get t
 | [],vs,e,t,_=>rfl
 | o::r,[],e,t,_=>rfl
 | o::r,v::vs,e,t,h=>by
  rw[putAll,putAll_not r vs _ t (fun o' ho'=>h o' (by simp[ho'])),put_get_ne (h o (by simp))]
theorem putAll_one:∀ (os:List Ins) (vs:List SV) (e:Env) (t i:Nat) (o:Ins) (v:SV),os[i]? = some o->vs[i]? = some v->o.d=some t->(∀ j p,i<j->os[j]? = some p->p.d≠some t) →
 (putAll e os vs).get t=v
 | [],vs,e,t,i,o,v,h,_,_,_=>by simp at h
 | o'::r,[],e,t,i,o,v,_,h,_,_=>by simp at h
 | o'::r,v'::vs,e,t,0,o,v,h1,h2,h3,h4=>by
  simp at h1 h2; subst h1 h2
  rw[putAll,putAll_not r vs _ t,h3,put_get_eq]
  intro p hp
  obtain⟨j,hj⟩:=List.getElem?_of_mem hp
  exact h4 (j+1) p (by omega) (by simpa using hj)
 | o'::r,v'::vs,e,t,i+1,o,v,h1,h2,h3,h4=>by
  rw[putAll]
  exact putAll_one r vs _ t i o v (by simpa using h1) (by simpa using h2) h3 fun j p hj hp=>h4 (j+1) p (by omega) (by simpa using hp)
theorem EnvR.congr {S:St} {e e':Env} {tmps:Array Value} (h:EnvR S e tmps) (hk:∀ t,e'.get t=.any∨e'.get t=e.get t):EnvR S e' tmps:=by
 refine⟨fun t => ?_⟩
 rcases hk t with h1 | h1<;>rw[h1]
 · exact .any _
 · exact h.get t
theorem filter_lt {α:Type} {p q:α->Bool}:∀ (l:List α),(∀ x∈l,q x=true->p x=true)->∀ i∈l,p i=true->q i=false->(l.filter q).length<(l.filter p).length
 | [],_,i,hi,_,_=>by simp at hi
 | x::r,h,i,hi,hp,hq=>by
  have hle:∀ (l:List α),(∀ x∈l,q x=true->p x=true)->(l.filter q).length≤(l.filter p).length:=by
   intro l
   induction l with
   | nil=>intro _; simp
   | cons y s ih =>
    intro hh
    have:=ih (fun z hz=>hh z (by simp[hz]))
    simp only[List.filter_cons]
    by_cases hqy:q y=true
    · rw[if_pos hqy,if_pos (hh y (by simp) hqy)]; simp; omega
    · rw[if_neg hqy]; split<;>simp<;>omega
  simp only[List.mem_cons]at hi
  simp only[List.filter_cons]
  rcases hi with rfl | hi
  · rw[if_pos hp,if_neg (by simp[hq])]
    have:=hle r (fun z hz=>h z (by simp[hz]))
    simp; omega
  · have ih:=filter_lt r (fun z hz=>h z (by simp[hz])) i hi hp hq
    by_cases hqx:q x=true
    · rw[if_pos hqx,if_pos (h x (by simp) hqx)]; simp; omega
    · rw[if_neg hqx]; split<;>simp<;>omega
abbrev CI:=Nat×Ins
structure DC (ops:Array Oper) (C:List CI):Prop where
 cov:∀ i,i<ops.size->∃ x∈C,x.1=i
 edge:∀ i o,ops[i]? = some o->∀ e∈o.after.toList,Region.binds .any e=true->e.on<i
 uniq:∀ x∈C,∀ y∈C,x.1≠y.1->∀ d,x.2.d=some d->y.2.d≠some d
 dep:∀ x∈C,∀ y∈C,∀ d,x.2.d=some d->d∈y.2.slots->beforeB (masks ops.toList []) x.1 y.1=true
 self:∀ x∈C,∀ d,x.2.d=some d->d∉x.2.slots
theorem zip_fst {ns:List Nat} {l:List Ins} (h:ns.length=l.length) {i:Nat} (hi:i∈ns):∃ x∈ns.zip l,x.1=i:=by
 obtain⟨k,hk⟩:=List.getElem?_of_mem hi
 have hlt:k<l.length:=by rw[←h]; exact getElem?_lt hk
 exact⟨(i,l[k]),List.mem_of_getElem? (i:=k) (by rw[List.getElem?_zip_eq_some]; exact⟨hk,List.getElem?_eq_getElem hlt⟩),rfl⟩
theorem dc_of {ops:Array Oper} {ns:List Nat} {l:List Ins} (h:drawB0 ops ns l=true):DC ops (ns.zip l) ∧
 (ns.zip l).Pairwise fun x y=>(∀ d,y.2.d=some d->d∉x.2.slots)∧(x.2.j.quiet=false->beforeB (masks ops.toList []) x.1 y.1=true)∧x.1≠y.1:=by
 unfold drawB0 at h
 simp only[Bool.and_eq_true,beq_iff_eq,List.all_eq_true,List.mem_range,Bool.or_eq_true,Bool.not_eq_true',decide_eq_true_eq,List.contains_eq_mem]at h
 obtain⟨⟨⟨⟨h1,h2⟩,h3⟩,h4⟩,h5⟩:=h
 generalize hC:ns.zip l=C at h5 ⊢
 have hp:∀ (a b:Nat) (x y:CI),C[a]? = some x->C[b]? = some y →
  (∀ d,x.2.d=some d->(a=b∨y.2.d≠some d)∧(d∈y.2.slots->beforeB (masks ops.toList []) x.1 y.1=true∧a<b)) ∧
  ((x.2.j.quiet=true∨b≤a)∨beforeB (masks ops.toList []) x.1 y.1=true)∧(a=b∨x.1≠y.1):=by
  intro a b x y hx hy
  have hxm:(x,a)∈C.zipIdx:=List.mem_of_getElem? (i:=a) (by rw[List.getElem?_zipIdx]; simp[hx])
  have hym:(y,b)∈C.zipIdx:=List.mem_of_getElem? (i:=b) (by rw[List.getElem?_zipIdx]; simp[hy])
  have h6:=h5 (x,a) hxm (y,b) hym
  simp only[bne_iff_ne,ne_eq]at h6
  obtain⟨⟨h6,h7⟩,h8⟩:=h6
  refine⟨fun d hd => ?_,h7,h8⟩
  rw[hd]at h6
  simp only[Bool.and_eq_true,Bool.or_eq_true,beq_iff_eq,bne_iff_ne,ne_eq,Bool.not_eq_true',decide_eq_true_eq,decide_eq_false_iff_not]at h6
  refine⟨h6.1,fun hm => ?_⟩
  rcases h6.2 with h9 | h9
  · exact absurd hm h9
  · exact h9
 refine⟨⟨fun i hi => ?_,?_,?_,?_,?_⟩,?_⟩
 · rw[←hC]; exact zip_fst h2 (h3 i (by omega))
 · intro i o ho e he hb
   have hi:i<ops.size:=(Array.getElem?_eq_some_iff.1 ho).1
   rcases h4 i (by omega) e (by rw[Array.getD_eq_getD_getElem?,ho]; simpa using he)with h6 | h6
   · rw[hb]at h6; cases h6
   · exact h6
 · intro x hx y hy hne d hd hd'
   obtain⟨a,ha⟩:=List.getElem?_of_mem hx
   obtain⟨b,hb⟩:=List.getElem?_of_mem hy
   rcases((hp a b x y ha hb).1 d hd).1 with h6 | h6
   · subst h6; rw[ha]at hb; cases hb; exact hne rfl
   · exact h6 hd'
 · intro x hx y hy d hd hs
   obtain⟨a,ha⟩:=List.getElem?_of_mem hx
   obtain⟨b,hb⟩:=List.getElem?_of_mem hy
   exact(((hp a b x y ha hb).1 d hd).2 hs).1
 · intro x hx d hd hs
   obtain⟨a,ha⟩:=List.getElem?_of_mem hx
   have:=(((hp a a x x ha ha).1 d hd).2 hs).2; omega
 · rw[List.pairwise_iff_getElem]
   intro a b ha hb hab
   have h6:=hp a b C[a] C[b] (List.getElem?_eq_getElem ha) (List.getElem?_eq_getElem hb)
   have h7:=hp b a C[b] C[a] (List.getElem?_eq_getElem hb) (List.getElem?_eq_getElem ha)
   refine⟨fun d hd hs => ?_,fun hq => ?_,?_⟩
   · have:=((h7.1 d hd).2 hs).2; omega
   · rcases h6.2.1 with (h8 | h8) | h8
     · rw[hq]at h8; cases h8
     · omega
     · exact h8
   · rcases h6.2.2 with h8 | h8
     · omega
     · exact h8
abbrev QI:=Nat×Ins×SV
def unl (listed:Array Bool) (q:QI):Bool := !listed.getD q.1 false
def maskE (Qs:List QI) (e:Env):Env:=(Qs.filterMap fun q=>q.2.1.d.map fun d=>(d,SV.any))++e
theorem mask_any {e:Env} {t:Nat}:∀ {Qs:List QI},(∃ q∈Qs,q.2.1.d=some t)->(maskE Qs e).get t=.any
 | [],h=>by obtain⟨q,hq,_⟩:=h; simp at hq
 | q::r,h=>by
  simp only[maskE,List.filterMap_cons]
  cases hd:q.2.1.d with
  | none =>
   simp only[Option.map_none]
   refine mask_any ?_
   obtain⟨q',hq',ht⟩:=h
   simp only[List.mem_cons]at hq'
   rcases hq' with rfl | hq'
   · rw[hd]at ht; cases ht
   · exact⟨q',hq',ht⟩
  | some d =>
   simp only[Option.map_some,List.cons_append,Env.get]
   by_cases h2:d=t
   · rw[if_pos h2]
   · rw[if_neg h2]
     refine mask_any ?_
     obtain⟨q',hq',ht⟩:=h
     simp only[List.mem_cons]at hq'
     rcases hq' with rfl | hq'
     · rw[hd]at ht; cases ht; exact absurd rfl h2
     · exact⟨q',hq',ht⟩
theorem mask_get {e:Env} {t:Nat}:∀ {Qs:List QI},(∀ q∈Qs,q.2.1.d≠some t)->(maskE Qs e).get t=e.get t
 | [],_=>rfl
 | q::r,h=>by
  simp only[maskE,List.filterMap_cons]
  cases hd:q.2.1.d with
  | none=>simp only[Option.map_none]; exact mask_get fun q' hq'=>h q' (by simp[hq'])
  | some d =>
   simp only[Option.map_some,List.cons_append,Env.get]
   rw[if_neg (fun e=>h q (by simp) (by rw[hd,e]))]
   exact mask_get fun q' hq'=>h q' (by simp[hq'])
section
variable {P:Program}
theorem xo_congr {o:Ins} {env env':Env} {H:List AO} {K:XE->Env->List AO->Prop} (hq:o.j.quiet=false) (hs:∀ t∈o.slots,env'.get t=env.get t) (h:xo P o env H K) :
 xo P o env' H fun x e2 H'=>match x with
  | .normal=>∃ v,e2=env'.put o.d v∧K .normal (env.put o.d v) H'
  | x=>K x env H':=by
 cases hoj:o.j with
 | p i=>rw[hoj]at hq; simp[J.quiet]at hq
 | q f args=>rw[hoj]at hq; simp[J.quiet]at hq
 | e i =>
  have hods:∀ x∈i.ods,env.ev x=env'.ev x:=by
   intro x hx
   refine(ev_congr fun t ht=>hs t ?_).symm
   simp only[Ins.slots,hoj,J.slots,List.mem_append,List.mem_flatMap]
   exact .inr ⟨x,hx,ht⟩
  have hj:xj P o env H K->xj P o env' H fun x e2 H'=>match x with
   | .normal=>∃ v,e2=env'.put o.d v∧K .normal (env.put o.d v) H'
   | x=>K x env H':=by
   intro hx
   by_cases hc:i.isCall=true
   · cases i<;>simp[E.isCall]at hc
     case call f args =>
      simp only[E.ods,List.mem_cons,forall_eq_or_imp]at hods
      have h1:args.map env.ev=args.map env'.ev:=List.map_congr_left hods.2
      unfold xj at hx ⊢
      rw[hoj]at hx ⊢
      simp only at hx ⊢
      obtain⟨Pt,h2,h3⟩:=hx
      refine⟨Pt,by rw[←hods.1,<- h1]; exact h2,fun out H' hp => ?_⟩
      have h3:=h3 out H' hp
      cases out with
      | ret r=>exact⟨r,rfl,h3⟩
      | pan x=>exact h3
     case calln f args =>
      simp only[E.ods,List.mem_cons,forall_eq_or_imp]at hods
      have h1:args.map env.ev=args.map env'.ev:=List.map_congr_left hods.2
      unfold xj at hx ⊢
      rw[hoj]at hx ⊢
      simp only at hx ⊢
      obtain⟨r,L,h2,h3⟩:=hx
      exact⟨r,L,fun H' hl=>by rw[←hods.1,<- h1]; exact h2 H' hl,r,rfl,h3⟩
     case pan x =>
      have h1:=hods x (by simp[E.ods])
      unfold xj at hx ⊢
      rw[hoj]at hx ⊢
      simp only at hx ⊢
      rw[←h1]
      exact hx
   · have hc':i.isCall=false:=by simpa using hc
     unfold xj at hx ⊢
     rw[hoj]at hx ⊢
     have h1:xe i env.ev H fun v H'=>K .normal (env.put o.d v) H':=by
      cases i<;>first | exact hx | simp[E.isCall]at hc'
     have h2:=xe_congr (K':=fun v H'=>∃ v',env'.put o.d v=env'.put o.d v'∧K .normal (env.put o.d v') H') hods (fun v H' hk=>⟨v,rfl,hk⟩) h1
     cases i<;>first | exact h2 | simp[E.isCall]at hc'
  unfold xo at h ⊢
  cases hog:o.g with
  | none=>rw[hog]at h; exact hj h
  | some sw =>
   obtain⟨s,want⟩:=sw
   rw[hog]at h
   have hgs:env'.get s=env.get s:=hs s (by simp[Ins.slots,hog])
   rw[hoj]at h ⊢
   simp only at h ⊢
   rw[hgs]
   exact⟨h.1,fun hon=>hj (h.2.1 hon),fun hoff=>⟨_,rfl,h.2.2 hoff⟩⟩
theorem pv_H {i:I} (h:J.dep (.p i)=false) (g:Od->SV) (H H':List AO):pv i g H=pv i g H':=by
 cases i<;>first | rfl | (simp[J.dep]at h)
theorem quietV_H {o:Ins} {env:Env} {H H':List AO} {v:SV} (hd:o.j.dep=false) (h:quietV P o env H v):quietV P o env H' v:=by
 unfold quietV at *
 cases hoj:o.j with
 | p i =>
  rw[hoj]at h hd
  simp only[pv_H hd env.ev H H']at h
  exact h
 | q f args=>rw[hoj]at hd; simp[J.dep]at hd
 | e i=>rw[hoj]at h; exact h
theorem xd_split {H:List AO} {K:XE->Env->List AO->Prop}:∀ (rest:List CI) (pend:List (Ins×SV)) (env:Env),xd P pend (rest.map (·.2)) env H K →
 ∃ (F:List QI) (rest':List CI) (pend':List (Ins×SV)),rest=(F.map fun q=>(q.1,q.2.1))++rest'∧(rest'=[]∨∃ c r,rest'=c::r∧c.2.j.quiet=false) ∧
  (∀ q∈F,q.2.1.j.quiet=true)∧(∀ p∈pend,p∈pend')∧(∀ q∈F,(q.2.1,q.2.2)∈pend')∧(∀ p∈pend',p∈pend∨∃ q∈F,p.1=q.2.1) ∧
  (∀ (k:Nat) (q:QI),F[k]? = some q->quietV P q.2.1 (putAll env ((F.take k).map (·.2.1)) ((F.take k).map (·.2.2))) H q.2.2) ∧
  xd P pend' (rest'.map (·.2)) (putAll env (F.map (·.2.1)) (F.map (·.2.2))) H K
 | [],pend,env,h=>⟨[],[],pend,rfl,.inl rfl,fun q hq=>by simp at hq,fun p hp=>hp,fun q hq=>by simp at hq,fun p hp=>.inl hp,fun k q hk=>by simp at hk,h⟩
 | c::r,pend,env,h=>by
  by_cases hq:c.2.j.quiet=true
  · have key:∃ v,quietV P c.2 env H v∧xd P ((c.2,v)::pend) (r.map (·.2)) (env.put c.2.d v) H K:=by
     simp only[List.map_cons,xd]at h
     rw[if_pos hq]at h
     unfold quietV
     cases hog:c.2.g with
     | none =>
      rw[hog]at h
      cases hoj:c.2.j with
      | p i =>
       rw[hoj]at h
       simp only at h ⊢
       exact⟨_,⟨h.1,rfl⟩,h.2⟩
      | q f args =>
       rw[hoj]at h
       simp only at h ⊢
       obtain⟨v,h1,h2⟩:=h
       exact⟨v,h1,h2⟩
      | e i=>rw[hoj]at hq; simp[J.quiet]at hq
     | some sw =>
      obtain⟨s,want⟩:=sw
      rw[hog]at h
      cases hoj:c.2.j with
      | p i =>
       rw[hoj]at h
       simp only at h ⊢
       exact⟨_,⟨h.1,h.2.1,rfl⟩,h.2.2⟩
      | q f args =>
       rw[hoj]at h
       simp only at h ⊢
       obtain⟨h0,v,h1,h2⟩:=h
       exact⟨_,⟨h0,v,h1,rfl⟩,h2⟩
      | e i=>rw[hoj]at hq; simp[J.quiet]at hq
    obtain⟨v,h1,h4⟩:=key
    obtain⟨F,rest',pend',g1,g2,g3,g4,g5,g8,g6,g7⟩:=xd_split r _ _ h4
    refine⟨(c.1,c.2,v)::F,rest',pend',by simp[g1],g2,?_,fun p hp=>g4 p (by simp[hp]),?_,?_,?_,by simpa[putAll]using g7⟩
    · intro q hqm
      simp only[List.mem_cons]at hqm
      rcases hqm with rfl | hqm
      · exact hq
      · exact g3 q hqm
    · intro q hqm
      simp only[List.mem_cons]at hqm
      rcases hqm with rfl | hqm
      · exact g4 _ (by simp)
      · exact g5 q hqm
    · intro p hp
      rcases g8 p hp with h | ⟨q,hqm,h⟩
      · simp only[List.mem_cons]at h
        rcases h with rfl | h
        · exact .inr ⟨(c.1,c.2,v),by simp,rfl⟩
        · exact .inl h
      · exact .inr ⟨q,by simp[hqm],h⟩
    · intro k q hk
      cases k with
      | zero=>simp at hk; subst hk; simpa[putAll]using h1
      | succ k=>simpa[putAll]using g6 k q (by simpa using hk)
  · exact⟨[],c::r,pend,rfl,.inr ⟨c,r,rfl,by simpa using hq⟩,fun q hq=>by simp at hq,fun p hp=>hp,fun q hq=>by simp at hq,fun p hp=>.inl hp,fun k q hk=>by simp at hk,h⟩
theorem set_listed {listed:Array Bool} {i k:Nat} (hi:i<listed.size):(listed.setIfInBounds i true).getD k false=true↔(k=i∨listed.getD k false=true):=by
 by_cases h:i=k
 · subst h; simp[hi]
 · rw[getD_set_ne false h]
   constructor
   · exact fun h'=>.inr h'
   · rintro(h' | h')
     · exact absurd h'.symm h
     · exact h'
theorem getD_size {listed:Array Bool} {i:Nat} (h:i<listed.size):listed.getD i true=listed.getD i false:=by
 simp[Array.getD_eq_getD_getElem?,Array.getElem?_eq_getElem h]
theorem step_wpOp {ops:Array Oper} {Q:Exit->Act->World->Prop} {i:Nat} {o:Oper} {a:Act} {w:World} {next:Act->World->Prop} (ho:ops[i]? = some o) (h:StepOf P ops o a w next Q):wpOp P ops Q i next a w:=by
 unfold wpOp
 rw[ho]
 simp only
 unfold StepOf at h
 split
 · rename_i hw; rw[if_pos hw]at h; exact h
 · rename_i hw; rw[if_neg hw]at h; exact h
theorem some_ready {ops:Array Oper} (hedge:∀ i o,ops[i]? = some o->∀ e∈o.after.toList,Region.binds .any e=true->e.on<i) {listed:Array Bool} (hsz:listed.size=ops.size) (hr:Region.ready .any ops listed=[]) :
 ∀ i,i<ops.size->listed.getD i false=true:=by
 intro i
 induction i using Nat.strongRecOn with
 | _ i ih =>
  intro hi
  cases h:listed.getD i false with
  | true=>rfl
  | false =>
   have:i∈Region.ready .any ops listed:=by
    rw[mem_ready]
    refine⟨by rw[getD_size (by omega)]; exact h,ops[i],Array.getElem?_eq_getElem hi,fun e he hb => ?_⟩
    have:=hedge i ops[i] (Array.getElem?_eq_getElem hi) e (by simpa using he) hb
    exact ih e.on this (by omega)
   rw[hr]at this; simp at this
theorem before_listed {ops:Array Oper} {listed:Array Bool} {j:Nat} {o:Oper} (ho:ops[j]? = some o) (hcl:Closed ops fun t=>listed.getD t false=true)
 (hdeps:∀ e∈o.after,Region.binds .any e=true->listed.getD e.on false=true) {i:Nat} (hb:beforeB (masks ops.toList []) i j=true):listed.getD i false=true:=by
 have hlt:j<ops.size:=(Array.getElem?_eq_some_iff.1 ho).1
 have h4:j<(masks ops.toList []).length:=by rw[masks_length]; simpa using hlt
 unfold beforeB at hb
 rw[List.getD_eq_getElem?_getD,List.getElem?_eq_getElem h4]at hb
 exact mask_listed hcl j (fun o' ho' e hem hb=>by rw[ho]at ho'; cases ho'; exact hdeps e (by simpa using hem) hb) i _ (List.getElem?_eq_getElem h4) hb
theorem before_closed {ops:Array Oper} {listed:Array Bool} {i j:Nat} {o:Oper} (ho:ops[j]? = some o) (hcl:Closed ops fun t=>listed.getD t false=true) (hj:listed.getD j false=true)
 (hb:beforeB (masks ops.toList []) i j=true):listed.getD i false=true :=
 before_listed ho hcl (fun e he hb=>hcl j o hj ho e (by simpa using he) hb) hb
theorem needed_listed {N:Nat} {ops:Array Oper} {C:List CI} (hd:DC ops C) (hchk:∀ x∈C,∃ o,ops[x.1]? = some o∧chkIns P N ops o x.2=true) {listed:Array Bool} (hcl:Closed ops fun t=>listed.getD t false=true) :
 ∀ (pend:List (Ins×SV)) (ts:List Nat),(∀ p∈pend,∃ i,(i,p.1)∈C)->(∀ t∈ts,∀ y∈C,y.2.d=some t->listed.getD y.1 false=true) →
  ∀ s∈needed ts pend,∀ y∈C,y.2.d=some s->listed.getD y.1 false=true
 | [],ts,_,h=>h
 | (p,v)::r,ts,hp,h=>by
  unfold needed
  by_cases hm:hasD ts p.d=true
  · rw[if_pos hm]
    refine needed_listed hd hchk hcl r _ (fun q hq=>hp q (by simp[hq])) ?_
    intro t ht y hy hyd
    rcases List.mem_append.1 ht with ht | ht
    · obtain⟨i,hi⟩:=hp (p,v) (by simp)
      obtain⟨o,ho,_⟩:=hchk _ hi
      cases hpd:p.d with
      | none=>rw[hpd]at hm; simp[hasD]at hm
      | some d =>
       rw[hpd]at hm
       simp only[hasD]at hm
       have h1:=h d (by simpa using hm) (i,p) hi hpd
       exact before_closed ho hcl h1 (hd.dep y hy (i,p) hi t hyd ht)
    · exact h t ht y hy hyd
  · rw[if_neg hm]
    exact needed_listed hd hchk hcl r ts (fun q hq=>hp q (by simp[hq])) h
theorem draw_main {N:Nat} {ops:Array Oper} {C:List CI} {S:St} {db:DB} {K:XE->Env->List AO->Prop} (hd:DC ops C) (hchk:∀ x∈C,∃ o,ops[x.1]? = some o∧chkIns P N ops o x.2=true) :
 ∀ (fuel:Nat) (listed:Array Bool) (S':St) (a:Act) (Qs:List QI) (Ef:Env) (pend:List (Ins×SV)) (rest:List CI),
 rest.length+(Qs.filter (unl listed)).length≤fuel->listed.size=ops.size->(Closed ops fun t=>listed.getD t false=true) →
 (∀ q∈Qs,(q.1,q.2.1)∈C)->(∀ r∈rest,r∈C) →
 (∀ i,i<ops.size->listed.getD i false=false->(∃ q∈Qs,q.1=i)∨∃ r∈rest,r.1=i) →
 (∀ r∈rest,listed.getD r.1 false=false) →
 (rest.Pairwise fun x y=>(∀ d,y.2.d=some d->d∉x.2.slots)∧(x.2.j.quiet=false->beforeB (masks ops.toList []) x.1 y.1=true)∧x.1≠y.1) →
 (rest=[]∨∃ c r,rest=c::r∧c.2.j.quiet=false) →
 (∀ q∈Qs,∀ r∈rest,(∀ d,r.2.d=some d->d∉q.2.1.slots)∧q.1≠r.1) →
 (∀ q∈Qs,∀ q'∈Qs,q.1=q'.1->q=q')->(∀ q∈Qs,q.2.1.j.quiet=true) →
 (∀ q∈Qs,∀ d,q.2.1.d=some d->Ef.get d=q.2.2) →
 (∀ q∈Qs,listed.getD q.1 false=false->quietV P q.2.1 Ef S'.H q.2.2) →
 (∀ q∈Qs,(q.2.1,q.2.2)∈pend)->(∀ p∈pend,∃ i,(i,p.1)∈C) →
 Ext S.H.length S S'->Sim S'->EnvR S' (maskE (Qs.filter (unl listed)) Ef) a.tmps->a.tmps.size=N->db.Ok S'.w a.defers →
 xd P pend (rest.map (·.2)) Ef S'.H K->wpAny P .any ops (Post S N db K) fuel listed a S'.w:=by
 intro fuel
 induction fuel with
 | zero =>
  intro listed S' a Qs Ef pend rest hf hsz hcl hQC hrC hcov hrl hpw hhead hqr hqn hqq hval hqv hpend hpC he hS henv hN hdf hx
  obtain rfl:rest=[]:=List.eq_nil_of_length_eq_zero (by omega)
  have hun:Qs.filter (unl listed)=[]:=List.eq_nil_of_length_eq_zero (by omega)
  have hall:∀ i,i<ops.size->listed.getD i false=true:=by
   intro i hi
   cases h:listed.getD i false with
   | true=>rfl
   | false =>
    rcases hcov i hi h with ⟨q,hq,rfl⟩ | ⟨r,hr,_⟩
    · have:q∈Qs.filter (unl listed):=by rw[List.mem_filter]; exact⟨hq,by simp[unl]; simpa using h⟩
      rw[hun]at this; simp at this
    · simp at hr
  rw[hun]at henv
  refine⟨?_,⟨.normal,Ef,S'.ρ,S'.H,trivial,he,hS,henv,hN,hdf,hx⟩⟩
  rw[List.eq_nil_iff_forall_not_mem]
  intro i hi
  rw[mem_ready]at hi
  obtain⟨h1,o,ho,_⟩:=hi
  have hlt:i<ops.size:=(Array.getElem?_eq_some_iff.1 ho).1
  rw[getD_size (by omega),hall i hlt]at h1; cases h1
 | succ fuel ih =>
  intro listed S' a Qs Ef pend rest hf hsz hcl hQC hrC hcov hrl hpw hhead hqr hqn hqq hval hqv hpend hpC he hS henv hN hdf hx
  refine⟨fun hr => ?_,fun j hj => ?_⟩
  · have hall:=some_ready hd.edge hsz hr
    have hrest:rest=[]:=by
     cases rest with
     | nil=>rfl
     | cons c r =>
      obtain⟨o,ho,_⟩:=hchk c (hrC c (by simp))
      have h1:=hrl c (by simp)
      rw[hall c.1 (Array.getElem?_eq_some_iff.1 ho).1]at h1; cases h1
    subst hrest
    have hun:Qs.filter (unl listed)=[]:=by
     rw[List.filter_eq_nil_iff]
     intro q hq hu
     obtain⟨o,ho,_⟩:=hchk _ (hQC q hq)
     have:=hall q.1 (Array.getElem?_eq_some_iff.1 ho).1
     have e:unl listed q=false:=by unfold unl; rw[this]; rfl
     rw[e]at hu; cases hu
    rw[hun]at henv
    exact⟨.normal,Ef,S'.ρ,S'.H,trivial,he,hS,henv,hN,hdf,hx⟩
  · rw[mem_ready]at hj
    obtain⟨g1,o,ho,hdeps⟩:=hj
    have hlt:j<ops.size:=(Array.getElem?_eq_some_iff.1 ho).1
    rw[getD_size (by omega)]at g1
    have before:=fun(i:Nat)=>before_listed (i:=i) ho hcl hdeps
    have hjs:j<listed.size:=by omega
    have hset:∀ k,(listed.setIfInBounds j true).getD k false=false->listed.getD k false=false:=by
     intro k hk
     cases h:listed.getD k false with
     | false=>rfl
     | true=>rw[(set_listed (k:=k) hjs).2 (.inr h)]at hk; cases hk
    have hclosed':Closed ops fun t=>(listed.setIfInBounds j true).getD t false=true:=by
     intro i p hi hp e hem hb
     rw[set_listed hjs]at hi ⊢
     rcases hi with rfl | hi
     · rw[ho]at hp; cases hp; exact .inr (hdeps e (by simpa using hem) hb)
     · exact .inr (hcl i p hi hp e hem hb)
    rcases hcov j hlt g1 with ⟨q,hq,rfl⟩ | ⟨c,hc,rfl⟩
    · -- a quiet operation
      obtain⟨o',ho',hci⟩:=hchk _ (hQC q hq)
      rw[ho]at ho'; cases ho'
      have hm:∀ t∈q.2.1.slots,(maskE (Qs.filter (unl listed)) Ef).get t=Ef.get t:=by
       intro t ht
       refine mask_get fun q' hq' hd' => ?_
       rw[List.mem_filter]at hq'
       have h1:=before q'.1 (hd.dep _ (hQC q' hq'.1) _ (hQC q hq) t hd' ht)
       have h2:=hq'.2
       simp only[unl,Bool.not_eq_true']at h2
       rw[h1]at h2; cases h2
      have hq1:=quietV_congr (hqv q hq g1) hm
      have hxo:xo P q.2.1 (maskE (Qs.filter (unl listed)) Ef) S'.H (fun x env' H'=>x=.normal∧env'=(maskE (Qs.filter (unl listed)) Ef).put q.2.1.d q.2.2∧H'=S'.H):=xo_of_quietV hq1 ⟨rfl,rfl,rfl⟩
      refine step_wpOp ho (xo_sound hS henv hN hdf hci hxo ?_ ?_)
      · rintro a' w' ⟨x,env',ρ',H',hx',hext,hsim,henv',hN',hdf',hxn,rfl,rfl⟩
        refine ih _ ⟨ρ',S'.H,w'⟩ a' Qs Ef pend rest ?_ (by simpa using hsz) hclosed' hQC hrC (fun i hi h=>hcov i hi (hset i h)) ?_ hpw hhead hqr hqn hqq hval
         (fun q' hq' h=>hqv q' hq' (hset _ h)) hpend hpC (he.trans (hext.mono (he.len (Nat.le_refl _)))) hsim ?_ hN' hdf' hx
        · have:=filter_lt (p:=unl listed) (q:=unl (listed.setIfInBounds q.1 true)) Qs (by
           intro q' _ h
           simp only[unl,Bool.not_eq_true']at h ⊢
           exact hset _ h) q hq (by simp only[unl,g1]; rfl) (by
           simp only[unl,Bool.not_eq_false']
           exact(set_listed hjs).2 (.inl rfl))
          omega
        · intro r hr
          have h1:=hrl r hr
          cases h:(listed.setIfInBounds q.1 true).getD r.1 false with
          | false=>rfl
          | true =>
           rw[set_listed hjs]at h
           rcases h with h | h
           · exact absurd h.symm (hqr q hq r hr).2
           · rw[h1]at h; cases h
        · refine henv'.congr fun t => ?_
          by_cases hun:∃ q'∈Qs.filter (unl (listed.setIfInBounds q.1 true)),q'.2.1.d=some t
          · exact .inl (mask_any hun)
          · right
            rw[mask_get (fun q' hq' h=>hun ⟨q',hq',h⟩)]
            by_cases h2:q.2.1.d=some t
            · rw[h2,put_get_eq]; exact hval q hq t h2
            · rw[put_get_ne h2,mask_get]
              intro q' hq' h3
              apply hun
              refine⟨q',?_,h3⟩
              rw[List.mem_filter]at hq' ⊢
              refine⟨hq'.1,?_⟩
              have h4:=hq'.2
              simp only[unl,Bool.not_eq_true']at h4 ⊢
              cases h5:(listed.setIfInBounds q.1 true).getD q'.1 false with
              | false=>rfl
              | true =>
               rw[set_listed hjs]at h5
               rcases h5 with h5 | h5
               · have:=hqn q' hq'.1 q hq h5
                 subst this; exact absurd h3 h2
               · rw[h4]at h5; cases h5
      · rintro ch a' w' ⟨x,env',ρ',H',hx',hext,hsim,henv',hN',hdf',hxn,_⟩
        subst hxn
        simp only[ER]at hx'
    · -- the next write
      have hhd:∃ r,rest=c::r:=by
       rcases hhead with rfl | ⟨c',r,rfl,hq'⟩
       · simp at hc
       · simp only[List.mem_cons]at hc
         rcases hc with rfl | hc
         · exact⟨r,rfl⟩
         · rw[List.pairwise_cons]at hpw
           have h1:=before c'.1 ((hpw.1 c hc).2.1 hq')
           rw[hrl c' (by simp)]at h1; cases h1
      obtain⟨r,rfl⟩:=hhd
      have hcq:c.2.j.quiet=false:=by
       rcases hhead with h | ⟨c',r',h,hq'⟩
       · cases h
       · cases h; exact hq'
      obtain⟨o',ho',hci⟩:=hchk c (hrC c (by simp))
      rw[ho]at ho'; cases ho'
      rw[List.pairwise_cons]at hpw
      have hm:∀ t∈c.2.slots,(maskE (Qs.filter (unl listed)) Ef).get t=Ef.get t:=by
       intro t ht
       refine mask_get fun q' hq' hd' => ?_
       rw[List.mem_filter]at hq'
       have h1:=before q'.1 (hd.dep _ (hQC q' hq'.1) _ (hrC c (by simp)) t hd' ht)
       have h2:=hq'.2
       simp only[unl,Bool.not_eq_true']at h2
       rw[h1]at h2; cases h2
      simp only[List.map_cons,xd]at hx
      rw[if_neg (by simp[hcq])]at hx
      have hxo:=xo_congr hcq hm hx
      refine step_wpOp ho (xo_sound hS henv hN hdf hci hxo ?_ ?_)
      · rintro a' w' ⟨x,env',ρ',H',hx',hext,hsim,henv',hN',hdf',hk⟩
        cases x<;>simp only[ER]at hx'
        obtain⟨v,rfl,hpv,hxd⟩:=hk
        obtain⟨F,rest',pend',f1,f2,f3,f4,f5,f8,f6,f7⟩:=xd_split r pend _ hxd
        subst f1
        have hFC:∀ q∈F,(q.1,q.2.1)∈C:=fun q hq=>hrC _ (by simp; exact .inr (.inl ⟨q.2.2,hq⟩))
        have hr'C:∀ y∈rest',y∈C:=fun y hy=>hrC _ (by simp[hy])
        have hFr:∀ q∈F,(q.1,q.2.1)∈(F.map fun q=>(q.1,q.2.1))++rest':=fun q hq=>List.mem_append_left _ (List.mem_map.2 ⟨q,hq,rfl⟩)
        rw[List.pairwise_append]at hpw
        obtain⟨hpc,hpF,hpr,hpFr⟩:=hpw
        have hFidx:∀ (i k:Nat) (x y:QI),F[i]? = some x->F[k]? = some y->i<k->(∀ d,y.2.1.d=some d->d∉x.2.1.slots)∧x.1≠y.1:=by
         intro i k x y hx hy hik
         rw[List.pairwise_map,List.pairwise_iff_getElem]at hpF
         have h1:=getElem?_lt hx
         have h2:=getElem?_lt hy
         have h3:=hpF i k h1 h2 hik
         rw[List.getElem?_eq_getElem h1]at hx; cases hx
         rw[List.getElem?_eq_getElem h2]at hy; cases hy
         exact⟨h3.1,h3.2.2⟩
        generalize hE1:Ef.put c.2.d v=E1 at *
        have getF:∀ (t:Nat),(∀ q∈F,q.2.1.d≠some t)->(putAll E1 (F.map (·.2.1)) (F.map (·.2.2))).get t=E1.get t:=by
         intro t h
         refine putAll_not _ _ _ _ fun p hp => ?_
         obtain⟨q,hq,rfl⟩:=List.mem_map.1 hp
         exact h q hq
        have getF1:∀ q∈F,∀ d,q.2.1.d=some d->(putAll E1 (F.map (·.2.1)) (F.map (·.2.2))).get d=q.2.2:=by
         intro q hq d hqd
         obtain⟨k,hk⟩:=List.getElem?_of_mem hq
         refine putAll_one _ _ _ d k q.2.1 q.2.2 (by simp[hk]) (by simp[hk]) hqd ?_
         intro i p hik hp hpd
         simp only[List.getElem?_map,Option.map_eq_some_iff]at hp
         obtain⟨y,hy,rfl⟩:=hp
         exact hd.uniq _ (hFC q hq) _ (hFC y (List.mem_of_getElem? hy)) (hFidx k i q y hk hy hik).2 d hqd hpd
        have hcF:∀ q∈F,c.1≠q.1:=fun q hq=>(hpc _ (hFr q hq)).2.2
        have hcr':∀ y∈rest',c.1≠y.1:=fun y hy=>(hpc _ (List.mem_append_right _ hy)).2.2
        have hlF:∀ q∈F,(listed.setIfInBounds c.1 true).getD q.1 false=false:=by
         intro q hq
         cases h:(listed.setIfInBounds c.1 true).getD q.1 false with
         | false=>rfl
         | true =>
          rw[set_listed hjs]at h
          rcases h with h | h
          · exact absurd h.symm (hcF q hq)
          · have:=hrl (q.1,q.2.1) (List.mem_cons_of_mem _ (hFr q hq)); rw[this]at h; cases h
        have hQF:∀ q∈Qs,∀ q'∈F,(∀ d,q'.2.1.d=some d->d∉q.2.1.slots)∧q.1≠q'.1:=fun q hq q' hq'=>hqr q hq (q'.1,q'.2.1) (List.mem_cons_of_mem _ (hFr q' hq'))
        have hQc:∀ q∈Qs,(∀ d,c.2.d=some d->d∉q.2.1.slots)∧q.1≠c.1:=fun q hq=>hqr q hq c (by simp)
        refine ih _ ⟨ρ',H',w'⟩ a' (Qs++F) (putAll E1 (F.map (·.2.1)) (F.map (·.2.2))) pend' rest' ?_ (by simpa using hsz) hclosed' ?_ hr'C ?_ ?_ hpr f2 ?_ ?_ ?_ ?_ ?_ ?_ ?_
         (he.trans (hext.mono (he.len (Nat.le_refl _)))) hsim ?_ hN' hdf' f7
        · -- fuel
          have h1:((Qs++F).filter (unl (listed.setIfInBounds c.1 true))).length≤(Qs.filter (unl listed)).length+F.length:=by
           rw[List.filter_append,List.length_append]
           have h2:=List.length_filter_le (unl (listed.setIfInBounds c.1 true)) F
           have h3:(Qs.filter (unl (listed.setIfInBounds c.1 true))).length≤(Qs.filter (unl listed)).length:=by
            have:Qs.filter (unl (listed.setIfInBounds c.1 true))=(Qs.filter (unl listed)).filter (unl (listed.setIfInBounds c.1 true)):=by
             rw[List.filter_filter]
             refine List.filter_congr fun q _ => ?_
             simp only[unl]
             cases h:(listed.setIfInBounds c.1 true).getD q.1 false with
             | true=>rfl
             | false=>rw[hset _ h]; rfl
            rw[this]; exact List.length_filter_le _ _
           omega
          simp only[List.length_cons,List.length_append,List.length_map]at hf
          omega
        · intro q hq
          rcases List.mem_append.1 hq with hq | hq
          · exact hQC q hq
          · exact hFC q hq
        · intro i hi h
          have h0:=hset i h
          rcases hcov i hi h0 with ⟨q,hq,rfl⟩ | ⟨y,hy,rfl⟩
          · exact .inl ⟨q,List.mem_append_left _ hq,rfl⟩
          · simp only[List.mem_cons,List.mem_append,List.mem_map]at hy
            rcases hy with rfl | ⟨q,hq,rfl⟩ | hy
            · rw[(set_listed (k:=y.1) hjs).2 (.inl rfl)]at h; cases h
            · exact .inl ⟨q,List.mem_append_right _ hq,rfl⟩
            · exact .inr ⟨y,hy,rfl⟩
        · intro y hy
          cases h:(listed.setIfInBounds c.1 true).getD y.1 false with
          | false=>rfl
          | true =>
           rw[set_listed hjs]at h
           rcases h with h | h
           · exact absurd h.symm (hcr' y hy)
           · have:=hrl y (List.mem_cons_of_mem _ (List.mem_append_right _ hy)); rw[this]at h; cases h
        · intro q hq y hy
          rcases List.mem_append.1 hq with hq | hq
          · exact hqr q hq y (List.mem_cons_of_mem _ (List.mem_append_right _ hy))
          · have:=hpFr (q.1,q.2.1) (List.mem_map.2 ⟨q,hq,rfl⟩) y hy
            exact⟨this.1,this.2.2⟩
        · intro q hq q' hq' heq
          rcases List.mem_append.1 hq with hq | hq<;>rcases List.mem_append.1 hq' with hq' | hq'
          · exact hqn q hq q' hq' heq
          · exact absurd heq (hQF q hq q' hq').2
          · exact absurd heq.symm (hQF q' hq' q hq).2
          · obtain⟨i,hi⟩:=List.getElem?_of_mem hq
            obtain⟨k,hk⟩:=List.getElem?_of_mem hq'
            rcases Nat.lt_trichotomy i k with h | h | h
            · exact absurd heq (hFidx i k q q' hi hk h).2
            · subst h; rw[hi]at hk; cases hk; rfl
            · exact absurd heq.symm (hFidx k i q' q hk hi h).2
        · intro q hq
          rcases List.mem_append.1 hq with hq | hq
          · exact hqq q hq
          · exact f3 q hq
        · intro q hq d hqd
          rcases List.mem_append.1 hq with hq | hq
          · rw[getF d (fun q' hq' h=>hd.uniq _ (hQC q hq) _ (hFC q' hq') (hQF q hq q' hq').2 d hqd h),<- hE1,put_get_ne (fun h=>hd.uniq _ (hQC q hq) _ (hrC c (by simp)) (hQc q hq).2 d hqd h)]
            exact hval q hq d hqd
          · exact getF1 q hq d hqd
        · intro q hq hun
          rcases List.mem_append.1 hq with hq | hq
          · have hcg:∀ t∈q.2.1.slots,(putAll E1 (F.map (·.2.1)) (F.map (·.2.2))).get t=E1.get t:=fun t ht=>getF t fun q' hq' h=>(hQF q hq q' hq').1 t h ht
            refine quietV_congr ?_ hcg
            by_cases hdep:q.2.1.j.dep=true
            · refine hpv _ (hpend q hq) ?_
              simp only[loose,hdep,Bool.true_and,Bool.not_eq_true']
              unfold hasD
              cases hqd:q.2.1.d with
              | none=>rfl
              | some d =>
               simp only
               cases hcn:(needed c.2.slots pend).contains d with
               | false=>rfl
               | true =>
                have h1:=needed_listed hd hchk hcl pend c.2.slots hpC (fun t ht y hy hyd=>before y.1 (hd.dep y hy c (hrC c (by simp)) t hyd ht)) d (by simpa using hcn) _ (hQC q hq) hqd
                rw[hset _ hun]at h1; cases h1
            · refine quietV_H (by simpa using hdep) (quietV_congr (hqv q hq (hset _ hun)) fun t ht => ?_)
              rw[←hE1,put_get_ne (fun h=>(hQc q hq).1 t h ht)]
          · obtain⟨k,hk⟩:=List.getElem?_of_mem hq
            refine quietV_congr (f6 k q hk) fun t ht => ?_
            by_cases hw:∃ y∈F,y.2.1.d=some t
            · obtain⟨y,hy,hyd⟩:=hw
              obtain⟨i,hi⟩:=List.getElem?_of_mem hy
              have hik:i<k:=by
               rcases Nat.lt_trichotomy i k with h | h | h
               · exact h
               · subst h; rw[hi]at hk; cases hk
                 exact absurd ht (hd.self _ (hFC q hq) t hyd)
               · exact absurd ht ((hFidx k i q y hk hi h).1 t hyd)
              rw[getF1 y hy t hyd]
              refine(putAll_one _ _ _ t i y.2.1 y.2.2 ?_ ?_ hyd ?_).symm
              · simp only[List.getElem?_map,List.getElem?_take,if_pos hik,hi,Option.map_some]
              · simp only[List.getElem?_map,List.getElem?_take,if_pos hik,hi,Option.map_some]
              · intro m p him hp hpd
                simp only[List.getElem?_map,List.getElem?_take,Option.map_eq_some_iff]at hp
                obtain⟨z,hz,rfl⟩:=hp
                split at hz
                · exact hd.uniq _ (hFC y hy) _ (hFC z (List.mem_of_getElem? hz)) (hFidx i m y z hi hz him).2 t hyd hpd
                · cases hz
            · have hw':∀ y∈F,y.2.1.d≠some t:=fun y hy h=>hw ⟨y,hy,h⟩
              rw[getF t hw']
              refine(putAll_not _ _ _ _ fun p hp => ?_).symm
              obtain⟨z,hz,rfl⟩:=List.mem_map.1 hp
              exact hw' z (List.mem_of_mem_take hz)
        · intro q hq
          rcases List.mem_append.1 hq with hq | hq
          · exact f4 _ (hpend q hq)
          · exact f5 q hq
        · intro p hp
          rcases f8 p hp with h | ⟨q,hq,h⟩
          · exact hpC p h
          · exact⟨q.1,by rw[h]; exact hFC q hq⟩
        · refine henv'.congr fun t => ?_
          by_cases hun:∃ q'∈(Qs++F).filter (unl (listed.setIfInBounds c.1 true)),q'.2.1.d=some t
          · exact .inl (mask_any hun)
          · right
            rw[mask_get (fun q' hq' h=>hun ⟨q',hq',h⟩)]
            have hnF:∀ q∈F,q.2.1.d≠some t:=by
             intro q hq h
             exact hun ⟨q,by rw[List.mem_filter]; exact⟨List.mem_append_right _ hq,by simp only[unl,hlF q hq]; rfl⟩,h⟩
            rw[getF t hnF,<- hE1]
            by_cases h2:c.2.d=some t
            · rw[h2,put_get_eq,put_get_eq]
            · rw[put_get_ne h2,put_get_ne h2,mask_get]
              intro q' hq' h3
              apply hun
              refine⟨q',?_,h3⟩
              rw[List.mem_filter]at hq' ⊢
              refine⟨List.mem_append_left _ hq'.1,?_⟩
              have h4:=hq'.2
              simp only[unl,Bool.not_eq_true']at h4 ⊢
              cases h5:(listed.setIfInBounds c.1 true).getD q'.1 false with
              | false=>rfl
              | true =>
               rw[set_listed hjs]at h5
               rcases h5 with h5 | h5
               · exact absurd h5 (hQc q' hq'.1).2
               · rw[h4]at h5; cases h5
      · rintro ch a' w' ⟨x,env',ρ',H',hx',hext,hsim,henv',hN',hdf',hk⟩
        cases x<;>simp only[ER]at hx'
        exact⟨.panic _,[],ρ',H',hx',he.trans (hext.mono (he.len (Nat.le_refl _))),hsim,⟨fun t=>.any _⟩,hN',hdf',hk⟩
theorem draw_ok0 {P:Program}:DOk0 P drawB0:=by
 intro N ops ns l env H K hc hdr hx db S a hH hS he hN hdf
 subst hH
 obtain⟨hd,hpw⟩:=dc_of hdr
 have hlen:ns.length=l.length∧l.length=ops.size:=by
  unfold drawB0 at hdr
  simp only[Bool.and_eq_true,beq_iff_eq]at hdr
  exact⟨hdr.1.1.1.2,hdr.1.1.1.1⟩
 have hsnd:(ns.zip l).map (·.2)=l:=by rw[List.map_snd_zip]; omega
 have hchk:∀ x∈ns.zip l,∃ o,ops[x.1]? = some o∧chkIns P N ops o x.2=true:=by
  intro x hx
  unfold chkP at hc
  rw[List.all_eq_true]at hc
  have:=hc x hx
  split at this
  · rename_i o ho; exact⟨o,ho,this⟩
  · cases this
 have hnone:∀ i,(Array.replicate ops.size false).getD i false=false:=by
  intro i
  rw[Array.getD_eq_getD_getElem?,Array.getElem?_replicate]
  split<;>rfl
 have hE:=ext_same (S:=S) (w':=S.w.drew) rfl rfl rfl rfl
 have hS':=sim_same hS (w':=S.w.drew) rfl rfl rfl rfl
 obtain⟨F,rest',pend',f1,f2,f3,f4,f5,f8,f6,f7⟩:=xd_split (ns.zip l) [] env (by rw[hsnd]; exact hx)
 have hFC:∀ q∈F,(q.1,q.2.1)∈ns.zip l:=fun q hq=>by rw[f1]; exact List.mem_append_left _ (List.mem_map.2 ⟨q,hq,rfl⟩)
 have hr'C:∀ y∈rest',y∈ns.zip l:=fun y hy=>by rw[f1]; exact List.mem_append_right _ hy
 rw[f1,List.pairwise_append]at hpw
 obtain⟨hpF,hpr,hpFr⟩:=hpw
 have hFidx:∀ (i k:Nat) (x y:QI),F[i]? = some x->F[k]? = some y->i<k->(∀ d,y.2.1.d=some d->d∉x.2.1.slots)∧x.1≠y.1:=by
  intro i k x y hx hy hik
  rw[List.pairwise_map,List.pairwise_iff_getElem]at hpF
  have h1:=getElem?_lt hx
  have h2:=getElem?_lt hy
  have h3:=hpF i k h1 h2 hik
  rw[List.getElem?_eq_getElem h1]at hx; cases hx
  rw[List.getElem?_eq_getElem h2]at hy; cases hy
  exact⟨h3.1,h3.2.2⟩
 have getF:∀ (t:Nat),(∀ q∈F,q.2.1.d≠some t)->(putAll env (F.map (·.2.1)) (F.map (·.2.2))).get t=env.get t:=by
  intro t h
  refine putAll_not _ _ _ _ fun p hp => ?_
  obtain⟨q,hq,rfl⟩:=List.mem_map.1 hp
  exact h q hq
 have getF1:∀ q∈F,∀ d,q.2.1.d=some d->(putAll env (F.map (·.2.1)) (F.map (·.2.2))).get d=q.2.2:=by
  intro q hq d hqd
  obtain⟨k,hk⟩:=List.getElem?_of_mem hq
  refine putAll_one _ _ _ d k q.2.1 q.2.2 (by simp[hk]) (by simp[hk]) hqd ?_
  intro i p hik hp hpd
  simp only[List.getElem?_map,Option.map_eq_some_iff]at hp
  obtain⟨y,hy,rfl⟩:=hp
  exact hd.uniq _ (hFC q hq) _ (hFC y (List.mem_of_getElem? hy)) (hFidx k i q y hk hy hik).2 d hqd hpd
 refine draw_main hd hchk ops.size (Array.replicate ops.size false) ⟨S.ρ,S.H,S.w.drew⟩ a F (putAll env (F.map (·.2.1)) (F.map (·.2.2))) pend' rest' ?_ (by simp) ?_ hFC hr'C ?_ (fun r _=>hnone _) hpr f2 ?_ ?_ f3 getF1 ?_ f5 (fun p hp=>by
  rcases f8 p hp with h | ⟨q,hq,h⟩
  · simp at h
  · exact⟨q.1,by rw[h]; exact hFC q hq⟩)
  hE hS' ?_ hN hdf.drew f7
 · have h1:=List.length_filter_le (unl (Array.replicate ops.size false)) F
   have h2:(ns.zip l).length=ops.size:=by rw[List.length_zip]; omega
   rw[f1]at h2
   simp at h2; omega
 · intro j o hj
   simp only[hnone]at hj; cases hj
 · intro i hi _
   obtain⟨x,hx,rfl⟩:=hd.cov i hi
   rw[f1,List.mem_append,List.mem_map]at hx
   rcases hx with ⟨q,hq,rfl⟩ | hx
   · exact .inl ⟨q,hq,rfl⟩
   · exact .inr ⟨x,hx,rfl⟩
 · intro q hq y hy
   have:=hpFr (q.1,q.2.1) (List.mem_map.2 ⟨q,hq,rfl⟩) y hy
   exact⟨this.1,this.2.2⟩
 · intro q hq q' hq' heq
   obtain⟨i,hi⟩:=List.getElem?_of_mem hq
   obtain⟨k,hk⟩:=List.getElem?_of_mem hq'
   rcases Nat.lt_trichotomy i k with h | h | h
   · exact absurd heq (hFidx i k q q' hi hk h).2
   · subst h; rw[hi]at hk; cases hk; rfl
   · exact absurd heq.symm (hFidx k i q' q hk hi h).2
 · intro q hq _
   obtain⟨k,hk⟩:=List.getElem?_of_mem hq
   refine quietV_congr (f6 k q hk) fun t ht => ?_
   by_cases hw:∃ y∈F,y.2.1.d=some t
   · obtain⟨y,hy,hyd⟩:=hw
     obtain⟨i,hi⟩:=List.getElem?_of_mem hy
     have hik:i<k:=by
      rcases Nat.lt_trichotomy i k with h | h | h
      · exact h
      · subst h; rw[hi]at hk; cases hk
        exact absurd ht (hd.self _ (hFC q hq) t hyd)
      · exact absurd ht ((hFidx k i q y hk hi h).1 t hyd)
     rw[getF1 y hy t hyd]
     refine(putAll_one _ _ _ t i y.2.1 y.2.2 ?_ ?_ hyd ?_).symm
     · simp only[List.getElem?_map,List.getElem?_take,if_pos hik,hi,Option.map_some]
     · simp only[List.getElem?_map,List.getElem?_take,if_pos hik,hi,Option.map_some]
     · intro m p him hp hpd
       simp only[List.getElem?_map,List.getElem?_take,Option.map_eq_some_iff]at hp
       obtain⟨z,hz,rfl⟩:=hp
       split at hz
       · exact hd.uniq _ (hFC y hy) _ (hFC z (List.mem_of_getElem? hz)) (hFidx i m y z hi hz him).2 t hyd hpd
       · cases hz
   · have hw':∀ y∈F,y.2.1.d≠some t:=fun y hy h=>hw ⟨y,hy,h⟩
     rw[getF t hw']
     refine(putAll_not _ _ _ _ fun p hp => ?_).symm
     obtain⟨z,hz,rfl⟩:=List.mem_map.1 hp
     exact hw' z (List.mem_of_mem_take hz)
 · refine(he.ext hE).congr fun t => ?_
   by_cases hw:∃ y∈F,y.2.1.d=some t
   · left
     obtain⟨y,hy,hyd⟩:=hw
     exact mask_any ⟨y,by rw[List.mem_filter]; exact⟨hy,by simp only[unl,hnone]; rfl⟩,hyd⟩
   · right
     have hw':∀ y∈F,y.2.1.d≠some t:=fun y hy h=>hw ⟨y,hy,h⟩
     rw[mask_get (fun q hq=>hw' q (List.mem_filter.1 hq).1),getF t hw']
end
end Go.Ab
