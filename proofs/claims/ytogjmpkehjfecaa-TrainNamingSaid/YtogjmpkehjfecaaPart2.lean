/-
  Steps of the proof: contracts of functions and plain facts that the statement rests on.
-/
import Derived.Test.YtogjmpkehjfecaaPart1
set_option linter.all false
namespace Go.Proofs.Ytogjmpkehjfecaa.Rc
open Go.Ab
def rpP (n:Nat):SV:=.fn (.func 78) [] [.ptr (.own (n+2) 0 0 0 0) 0]
def RP (g:Gm) (H:List AO) (_:Nat) (G:List AO) (b:Bool):Prop:=∃ L,G=H++L∧L[2]? = some ⟨[bl b],4,0,true⟩∧L[3]? = some ⟨[g.wp,rpP H.length],131,0,true⟩
def nxP (_:Bool) (f:Fl):Bool:=decide (f.k≠2)
section
variable {H:List AO} {g:Gm}
theorem set_app {G:List AO} {j:Nat} (hj:H.length≤j) {L:List AO} (hG:G=H++L) (o:AO):G.set j o=H++L.set (j-H.length) o:=by
 subst hG
 rw[List.set_append_right _ _ hj]
theorem ok78 {c c':Nat} {G:List AO} {b:Bool} (f:Fl) (hI:RP g H c G b) :
 OkP Try.prog 78 [.agg f.cells,.ptr (.own (H.length+2) 0 0 0 0) 0] G fun out G'=>out=.ret (bl (nxP b f))∧RP g H c' G' (nxP b f)∧Keep G G':=by
 obtain⟨L,rfl,h2,h3⟩:=hI
 refine okP_fn hm Try.func78 c78 (by simp) fun hcl => ?_
 have hl2:=getElem?_lt h2
 have e1:∀ X,objCells (L++X) 2 0=[bl b]:=fun X=>objCells_of (o:=⟨[bl b],4,0,true⟩) (by rw[List.getElem?_append_left hl2]; exact h2) rfl
 have e2:∀ (c:List SV) X,objCells (L.set 2 (⟨c,4,0,true⟩:AO)++X) 2 0=c:=fun c X=>objCells_of (o:=⟨c,4,0,true⟩) (by rw[List.getElem?_append_left (by simpa using hl2),List.getElem?_set_self hl2]) rfl
 simp -implicitDefEqProofs[i78,r78,Fl.cells,setObj_old h2,e1,e2]
 refine⟨_,_,⟨?_,⟨_,rfl,?_,?_⟩,fun j o ho ht => ?_⟩,cv_id⟩
 · simp[nxP]
 · rw[List.getElem?_append_left (by simpa using hl2),List.getElem?_set_self hl2]; simp[nxP]
 · rw[List.getElem?_append_left (by simpa using getElem?_lt h3),List.getElem?_set_ne (by omega)]; exact h3
 · by_cases hj:j<H.length
   · rw[List.getElem?_append_left hj]at ho ⊢; exact ho
   · rw[List.getElem?_append_right (by omega)]at ho ⊢
     by_cases e:2=j-H.length
     · rw[←e,h2]at ho; cases ho; simp at ht
     · rw[List.getElem?_append_left (by simpa using getElem?_lt ho),List.getElem?_set_ne e]; exact ho
theorem repP:Rep (rpP H.length) H.length (RP g H) nxP nxP where
 vd:=rfl
 ug:=rfl
 cell:=rfl
 flat:=rfl
 call:=fun c G s f hI=>okCP_of (by simpa using ok78 f hI)
 app:=fun c G s o ⟨L,hG,h2,h3⟩=>⟨L++[o],by rw[hG,List.append_assoc],by rw[List.getElem?_append_left (getElem?_lt h2)]; exact h2,by rw[List.getElem?_append_left (getElem?_lt h3)]; exact h3⟩
 put:=fun c G s j o o' ⟨L,hG,h2,h3⟩ ho hj ht=>by
  subst hG
  rw[List.getElem?_append_right hj]at ho
  refine⟨L.set (j-H.length) o',by rw[List.set_append_right _ _ hj],?_,?_⟩
  · rw[List.getElem?_set_ne (fun e=>by rw[e,h2]at ho; cases ho; cases ht)]; exact h2
  · rw[List.getElem?_set_ne (fun e=>by rw[e,h3]at ho; cases ho; cases ht)]; exact h3
 len:=fun c G s ⟨L,hG,_⟩=>by subst hG; simp
 dec:=fun c G s h=>h
def setsL {τ:Type} (g:Gm) (rb:τ->Fl->Bool) (rn:τ->Fl->τ) (sel:Int->Bool) (stop:Bool):Nat->Nat->τ->τ
 | 0,_,s=>s
 | f+1,i,s =>
   match g.sets[i]?,g.is[i]? with
   | some nodes,some inf =>
     if sel inf.1=true then
       (let r:=seekS g rb rn i inf.1 (nodes.headD 0) (g.way (nodes.headD 0).toNat inf.1) nodes s
        if stop=true∧r.1=false then r.2 else setsL g rb rn sel stop f (i+1) r.2)
     else setsL g rb rn sel stop f (i+1) s
   | _,_=>s
def Gm.perf (g:Gm) (pl:Int):Bool:=setsL g nxP nxP (fun p=>decide (p=pl)) true g.is.length 0 true
theorem Wg.ne (h:Wg g):∀ k (hk:k<g.sets.length),g.sets[k]≠[]:=by
 intro k hk e
 have hse:=h.se
 rw[setsE_eq]at hse
 unfold Gm.setsR at hse
 split at hse
 · cases hse
 · split at hse
   · cases hse
   · rename_i h1
     exact h1 (by rw[←e]; exact List.getElem_mem hk)
theorem occ_lt {s:Nat}:∀ {l:List Nd} {o:Nat} {a:Int},a∈occ s l o->a<o+l.length
 | [],o,a,h=>by simp[occ]at h
 | x::r,o,a,h=>by
  unfold occ at h
  split at h
  · rcases List.mem_cons.1 h with rfl | h
    · simp; omega
    · have:=occ_lt h; simp; omega
  · have:=occ_lt h; simp; omega
theorem occ_len {s:Nat}:∀ {l:List Nd} {o:Nat},(occ s l o).length≤l.length
 | [],o=>by simp[occ]
 | x::r,o=>by
  unfold occ
  have:=occ_len (s:=s) (l:=r) (o:=o+1)
  split<;>simp<;>omega
theorem sets_occ {k:Nat} (hk:k<g.sets.length):g.sets[k]=occ k g.ns 0:=by
 have:=sets_at (g:=g) (s:=k) (by rw[←sets_len]; exact hk)
 rwa [List.getD_eq_getElem?_getD,List.getElem?_eq_getElem hk,Option.getD_some]at this
theorem sets_mem {k:Nat} (hk:k<g.sets.length) {v:Int} (hv:v∈g.sets[k]):0≤v∧v<g.ns.length:=by
 rw[sets_occ hk]at hv
 exact⟨occ_ge hv,by have:=occ_lt hv; simpa using this⟩
theorem sets_lenk {k:Nat} (hk:k<g.sets.length):g.sets[k].length≤g.ns.length:=by rw[sets_occ hk]; exact occ_len
set_option maxRecDepth 10000 in
theorem loop16 (hW:Wg g) {pl:Int} {N:Nat} {K:XE->Env->List AO->Prop} {Q:Bool}
 (hexit:∀ env L,L[2]? = some ⟨[bl Q],4,0,true⟩->env.get 9=.ptr (.own (H.length+2) 0 0 0 0) 0->K (.exit 0) env (H++L)) :
 ∀ (n i:Nat) (env:Env) (G:List AO) (s:Bool),i+n=g.is.length->RP g H 0 G s->setsL g nxP nxP (fun p=>decide (p=pl)) true n i s=Q →
  env.get 1=i64 pl->env.get 6=g.wp->env.get 9=.ptr (.own (H.length+2) 0 0 0 0) 0->env.get 10=.ptr (.own (H.length+3) 0 0 0 0) 0->env.get 34=g.setsV->env.get 35=i64 g.is.length->env.get 36=i64 i →
  LI Try.prog N drawB l63_0 env G K:=by
 have hgi:=hW.gd.i
 have hgn:=hW.gd.n
 have hsl:g.sets.length=g.is.length:=sets_len
 intro n
 induction n with
 | zero =>
  intro i env G s hi hR hQ h1 h6 h9 h10 h34 h35 h36
  refine li_go hm l63_0.eq_1 ?_
  have e:i=g.is.length:=by omega
  subst e
  simp -implicitDefEqProofs[h35,h36]
  obtain⟨L,rfl,h2,h3⟩:=hR
  simp only[setsL]at hQ
  subst hQ
  exact hexit _ L h2 (by simp[h9])
 | succ n ih =>
  intro i env G s hi hR hQ h1 h6 h9 h10 h34 h35 h36
  refine li_go hm l63_0.eq_1 ?_
  have hlt:i<g.is.length:=by omega
  have hls:i<g.sets.length:=by omega
  have w1:IntKind.i64.wrap ((i:Int)+1)=((i+1:Nat):Int):=wrap_succ (by omega)
  have hne:=hW.ne i hls
  unfold setsL at hQ
  rw[List.getElem?_eq_getElem hlt,List.getElem?_eq_getElem hls]at hQ
  simp only at hQ
  by_cases hp:g.is[i].1=pl
  · rw[if_pos (by simpa using hp)]at hQ
    obtain⟨L,rfl,h2,h3⟩:=id hR
    have ec:objCells (H++L) (H.length+3) 0=[g.wp,rpP H.length]:=by rw[objCells_new]; exact objCells_of h3 rfl
    simp -implicitDefEqProofs[h1,h6,h9,h10,h34,h35,h36,Gm.wp,sl,Gm.setsV,hlt,hls,slN_at hls,slN_ne hne,infs_g0 hlt,infs_len,infs_at hlt,hp,ec]
    obtain⟨n0,hn0⟩:∃ n0,g.sets[i].head? = some n0:=by
     cases h:g.sets[i]with
     | nil=>exact(hne h).elim
     | cons y r=>exact⟨y,rfl⟩
    have hd0:g.sets[i].headD 0=n0:=by rw[List.headD_eq_head?_getD,hn0]; rfl
    have h48:=ok80 (rp:=rpP H.length) (R:=RP g H) hW repP hlt hn0 (fun v hv=>sets_mem hls hv) (by have:=sets_lenk (g:=g) hls; omega) (c:=0) (show RP g H _ (H++L) s from hR)
    rw[hp]at h48
    rw[hd0,hp]at hQ
    refine call_goP (OkP.strip (by show OkP _ _ [.agg [g.wp,rpP H.length],i64 i,.slc (ints g.sets[i]) g.sets[i].length] _ _; exact h48)) ?_
    rintro out G' ⟨rfl,hR'⟩
    generalize seekS g nxP nxP i pl n0 (g.way n0.toNat pl) g.sets[i] s=q at hR' hQ
    obtain⟨b,s'⟩:=q
    cases b with
    | false =>
     rw[if_pos (by simp)]at hQ
     subst hQ
     simp -implicitDefEqProofs
     obtain⟨L',rfl,h2',h3'⟩:=hR'
     exact hexit _ L' h2' (by simp[h9])
    | true =>
     rw[if_neg (by simp)]at hQ
     simp -implicitDefEqProofs[h36]
     rw[w1]
     refine ih (i+1) _ _ _ (by omega) hR' hQ ?_ ?_ ?_ ?_ ?_ ?_ ?_
     · simp[h1]
     · simp[h6,Gm.wp,sl]
     · simp[h9]
     · simp[h10]
     · simp[h34,Gm.setsV]
     · simp[h35]
     · simp
  · rw[if_neg (by simpa using hp)]at hQ
    simp -implicitDefEqProofs[h1,h6,h9,h10,h34,h35,h36,Gm.wp,sl,Gm.setsV,hlt,hls,slN_at hls,slN_ne hne,infs_g0 hlt,infs_len,infs_at hlt,hp]
    rw[w1]
    refine ih (i+1) _ _ _ (by omega) hR hQ ?_ ?_ ?_ ?_ ?_ ?_ ?_
    · simp[h1]
    · simp[h6,Gm.wp,sl]
    · simp[h9]
    · simp[h10]
    · simp[h34,Gm.setsV]
    · simp[h35]
    · simp
def Gm.perfE (g:Gm) (pl:Int):Int:=if g.formE≠0 then g.formE else if pl<0∨g.pl≤pl then 2 else 0
def Gm.perfV (g:Gm) (pl:Int):Bool:=if g.perfE pl=0 then g.perf pl else false
set_option maxRecDepth 10000 in
theorem ok63 (pl:Int):Ok Try.prog 63 [.agg g.cells,i64 pl] H (.ret (.tup [bl (g.perfV pl),i64 (g.perfE pl)])) H:=by
 refine ok_fn hm Try.func63 c63 (by simp) fun hcl => ?_
 simp -implicitDefEqProofs[i63,r63,Gm.cells]
 have hh:=fun H=>ok76 (H:=H) (g:=g)
 simp only[Gm.cells]at hh
 refine call_go (hh _) ?_
 by_cases h:g.formE=0
 · rw[walked_ok h]
   have hW:=wg_of h
   have hp1:=hW.gd.p1
   have hp4:=hW.gd.p4
   have w2:IntKind.i64.wrap (g.pl-1)=g.pl-1:=wrap_id (by omega) (by omega)
   simp -implicitDefEqProofs[w2]
   refine call_go (ok77 (IsI.own0 H _ 1 0 [pl] [] 3 rfl) (by simp) 0 (g.pl-1)) ?_
   by_cases hp:pl<0∨g.pl-1<pl
   · have e:within 0 (g.pl-1) [pl]=2:=by rw[within1,if_pos hp]
     have hE:g.perfE pl=2:=by unfold Gm.perfE; rw[if_neg (by simpa using h),if_pos (by omega)]
     rw[e]
     simp -implicitDefEqProofs
     refine cv_fz 2 hcl rfl ?_
     simp[Gm.perfV,hE]
   · have e:within 0 (g.pl-1) [pl]=0:=by rw[within1,if_neg hp]
     have hE:g.perfE pl=0:=by unfold Gm.perfE; rw[if_neg (by simpa using h),if_neg (by omega)]
     rw[e]
     have hwp:g.wp.vd=true∧g.wp.ug=g.wp∧g.wp.flat=[g.wp]∧g.wp.isCell=true:=⟨rfl,rfl,rfl,rfl⟩
     simp -implicitDefEqProofs[hwp.1,hwp.2.1,hwp.2.2.1,hwp.2.2.2]
     refine⟨by simp[partOk,Gm.wp],call_go (ok79 hW.gd) ?_⟩
     simp -implicitDefEqProofs[Gm.setsV]
     refine loop16 (g:=g) hW (pl:=pl) (Q:=g.perf pl) (fun env L h2 h9 => ?_) g.is.length 0 _ _ true (by omega) ⟨_,rfl,rfl,rfl⟩ rfl (by simp) (by simp) (by simp) (by simp) (by simp[Gm.setsV]) (by simp) (by simp)
     have ec:objCells (H++L) (H.length+2) 0=[bl (g.perf pl)]:=by rw[objCells_new]; exact objCells_of h2 rfl
     simp -implicitDefEqProofs[h9,ec]
     refine cv_fz 2 hcl rfl ?_
     simp[Gm.perfV,hE]
 · obtain⟨p,e,_⟩:=walked_err h
   rw[e]
   have hE:g.perfE pl=g.formE:=by unfold Gm.perfE; rw[if_pos h]
   simp -implicitDefEqProofs[h]
   refine cv_fz 2 hcl rfl ?_
   simp[Gm.perfV,hE,h]
end
end Go.Proofs.Ytogjmpkehjfecaa.Rc
namespace Go.Proofs.Ytogjmpkehjfecaa.Rc
open Go.Ab
def fls:List Fl->List SV
 | []=>[]
 | x::r=>i64 x.k::i64 x.n::i64 x.i::i64 x.o::fls r
def fv (l:List Fl):SV:=if l=[]then nl else .slc (fls l) l.length
def nxF (l:List Fl) (f:Fl):List Fl:=l++[f]
section
variable {H:List AO} {g:Gm}
def Gm.flaws (g:Gm):List Fl:=setsL g (fun _ _=>true) nxF (fun _=>true) false g.is.length 0 []
end
end Go.Proofs.Ytogjmpkehjfecaa.Rc
namespace Go.Proofs.Ytogjmpkehjfecaa.Rc
open Go.Ab
def ws (l:List (Int×Int)):SV:=.slc (infs l) l.length
theorem fstAt_of {l:List Int} {v:Int} (hinc:l.Pairwise (· < ·)) (hv:v∈l):∃ k,∃ h:k<l.length,l[k]=v∧fstAt v l=k∧∀ t (h:t<l.length),l[t]=v->t=k:=by
 obtain⟨k,hk,e⟩:=List.getElem_of_mem hv
 have huniq:∀ t (h:t<l.length),l[t]=v->t=k:=fun t ht h=>by
  rw[List.pairwise_iff_getElem]at hinc
  rcases Nat.lt_trichotomy t k with h1 | h1 | h1
  · have:=hinc t k ht hk h1; omega
  · exact h1
  · have:=hinc k t hk ht h1; omega
 refine⟨k,hk,e,?_,huniq⟩
 have:l.findIdx? (· == v)=some k:=by
  rw[List.findIdx?_eq_some_iff_getElem]
  refine⟨hk,by simpa using e,fun j hj => ?_⟩
  intro h
  have:=huniq j (by omega) (by simpa using h)
  omega
 unfold fstAt; rw[this]
section
variable {H:List AO} {g:Gm}
theorem up_step {pl:Int} (hW:Wg g) {f node p:Nat} (hp:p<g.ns.length) (hP:gi g.wk.2.P node=p) {l:List (Int×Int)} :
 abv g pl (fun _ _ _=>true) (fun l k a=>l++[(infoAt g k,a)]) (f+1) node l=abv g pl (fun _ _ _=>true) (fun l k a=>l++[(infoAt g k,a)]) f p (if g.ns[p].k=2∧g.ns[p].p=pl then l++[(g.ns[p].i,fstAt node g.ns[p].nx)]else l):=by
 have hinf:infoAt g p=g.ns[p].i:=by unfold infoAt; rw[List.getElem?_eq_getElem hp]
 conv=>lhs; unfold abv
 rw[if_neg (by omega),hP,show((p:Nat):Int).toNat=p by omega,List.getElem?_eq_getElem hp]
 simp only
 by_cases h:g.ns[p].k=2∧g.ns[p].p=pl
 · rw[if_pos h,if_pos h,if_pos trivial,hinf]
 · rw[if_neg h,if_neg h]
end
end Go.Proofs.Ytogjmpkehjfecaa.Rc
namespace Go.Proofs.Ytogjmpkehjfecaa.Rc
open Go.Ab
section
variable {H:List AO} {g:Gm} {a b:List (Int×Int)}
theorem Wg.ty (h:Wg g) {x:Nd} (hx:x∈g.ns) (hk:x.k=2):g.is[x.i.toNat]? = some (x.p,(x.nx.length:Int)):=by
 have hse:=h.se
 unfold Gm.setsE at hse
 by_cases hb:∃ x∈g.ns,x.tyBad g
 · rw[if_pos hb]at hse; cases hse
 · by_cases h1:g.is[x.i.toNat]? = some (x.p,(x.nx.length:Int))
   · exact h1
   · exact(hb ⟨x,hx,hk,h1⟩).elim
def fr (l:List Fl):AO:=⟨fls l,128,l.length,true⟩
def fs (l:List Fl):SV:=.slc (fls l) l.length
end
end Go.Proofs.Ytogjmpkehjfecaa.Rc
namespace Go.Proofs.Ytogjmpkehjfecaa.Rc
open Go.Ab
end Go.Proofs.Ytogjmpkehjfecaa.Rc
namespace Go.Proofs.Ytogjmpkehjfecaa.Rc
open Go.Ab
section
variable {g:Gm}
def upf (g:Gm) (pl:Int) (f node:Nat) (l:List (Int×Int)):List (Int×Int):=abv g pl (fun _ _ _=>true) (fun l k a=>l++[(infoAt g k,a)]) f node l
theorem upf_root (hW:Wg g) {pl:Int} {f:Nat} {l:List (Int×Int)}:upf g pl (f+1) 0 l=l:=by
 unfold upf abv; rw[if_pos (by rw[hW.wf.p0]; omega)]
theorem upf_app (hW:Wg g) {pl:Int}:∀ (f node:Nat) (l:List (Int×Int)),node<f->node<g.ns.length->upf g pl f node l=l++upf g pl f node []
 | 0,node,l,h,_=>by omega
 | f+1,node,l,h,hn=>by
  rcases Nat.eq_zero_or_pos node with hz | hz
  · subst hz; rw[upf_root hW,upf_root hW]; simp
  · obtain⟨p,hp,k1,k2,k3⟩:=hW.wf.pf node hz hn
    unfold upf
    rw[up_step hW hp k1,up_step hW hp k1]
    have h1:=upf_app hW (pl:=pl) f p
    unfold upf at h1
    by_cases hc:g.ns[p].k=2∧g.ns[p].p=pl
    · rw[if_pos hc,if_pos hc,h1 _ (by omega) hp,h1 ([]++_) (by omega) hp]
      simp
    · rw[if_neg hc,if_neg hc,h1 _ (by omega) hp]
theorem upf_fuel (hW:Wg g) {pl:Int}:∀ (f f' node:Nat) (l:List (Int×Int)),node<f->node<f'->node<g.ns.length->upf g pl f node l=upf g pl f' node l
 | 0,f',node,l,h,_,_=>by omega
 | f+1,0,node,l,_,h,_=>by omega
 | f+1,f'+1,node,l,h,h',hn=>by
  rcases Nat.eq_zero_or_pos node with hz | hz
  · subst hz; rw[upf_root hW,upf_root hW]
  · obtain⟨p,hp,k1,k2,k3⟩:=hW.wf.pf node hz hn
    unfold upf
    rw[up_step hW hp k1,up_step hW hp k1]
    exact upf_fuel hW f f' p _ (by omega) (by omega) hp
def Bad (g:Gm) (i:Nat):Prop:=∃ h:i<g.sets.length,∃ h':i<g.is.length,∃ v∈g.sets[i],g.way v.toNat g.is[i].1≠g.way (g.sets[i].headD 0).toNat g.is[i].1
theorem seekP {i:Nat} {pl n0:Int} {first:List (Int×Int)}:∀ (l:List Int),seekS g nxP nxP i pl n0 first l true=if ∃ v∈l,g.way v.toNat pl≠first then(false,false)else(true,true)
 | []=>by simp[seekS]
 | v::r=>by
  have e1:nxP true ⟨1,v,i,g.deep v.toNat pl i⟩=true:=by simp[nxP]
  have e2:∀ b,nxP b ⟨2,v,i,n0⟩=false:=fun b=>by simp[nxP]
  unfold seekS
  simp only
  rw[if_neg (by rw[e1]; simp),e1]
  have e3:(if 0≤g.deep v.toNat pl i then true else true)=true:=by split<;>rfl
  rw[e3]
  by_cases hw:g.way v.toNat pl=first
  · rw[if_pos hw,seekP r]
    by_cases hx:∃ u∈r,g.way u.toNat pl≠first
    · obtain⟨u,hu,hh⟩:=hx
      rw[if_pos ⟨u,hu,hh⟩,if_pos ⟨u,List.mem_cons_of_mem _ hu,hh⟩]
    · rw[if_neg hx,if_neg]
      rintro⟨u,hu,hh⟩
      rcases List.mem_cons.1 hu with rfl | hu
      · exact hh hw
      · exact hx ⟨u,hu,hh⟩
  · rw[if_neg hw,e2,if_neg (by simp),if_pos ⟨v,List.mem_cons_self,hw⟩]
theorem setsP (hW:Wg g) {pl:Int}:∀ (n i:Nat),i+n=g.is.length->(setsL g nxP nxP (fun p=>decide (p=pl)) true n i true=true↔∀ t,i≤t->(h:t<g.is.length)->g.is[t].1=pl->¬ Bad g t)
 | 0,i,hi=>by
  simp only[setsL,true_iff]
  intro t h1 h2; omega
 | n+1,i,hi=>by
  have hlt:i<g.is.length:=by omega
  have hls:i<g.sets.length:=by rw[sets_len]; exact hlt
  unfold setsL
  rw[List.getElem?_eq_getElem hlt,List.getElem?_eq_getElem hls]
  simp only
  have ih:=setsP hW (pl:=pl) n (i+1) (by omega)
  by_cases hp:g.is[i].1=pl
  · rw[if_pos (by simpa using hp),seekP]
    by_cases hb:∃ v∈g.sets[i],g.way v.toNat g.is[i].1≠g.way (g.sets[i].headD 0).toNat g.is[i].1
    · rw[if_pos hb]
      simp only[and_self,if_true]
      constructor
      · intro h; cases h
      · intro h; exact(h i (Nat.le_refl _) hlt hp ⟨hls,hlt,hb⟩).elim
    · rw[if_neg hb]
      rw[if_neg (by simp),ih]
      constructor
      · intro h t h1 h2 h3
        by_cases e:t=i
        · subst e; rintro⟨_,_,h4⟩; exact hb h4
        · exact h t (by omega) h2 h3
      · intro h t h1 h2 h3; exact h t (by omega) h2 h3
  · rw[if_neg (by simpa using hp),ih]
    constructor
    · intro h t h1 h2 h3
      by_cases e:t=i
      · subst e; exact(hp h3).elim
      · exact h t (by omega) h2 h3
    · intro h t h1 h2 h3; exact h t (by omega) h2 h3
end
end Go.Proofs.Ytogjmpkehjfecaa.Rc
namespace Go.Proofs.Ytogjmpkehjfecaa.Rc
open Go.Ab Go.Ab.Shr
structure TS where
 rnd:Int
 seed:Int
 A:Nat->List Int
 P:Nat->List Int
 S:Nat->List Int
 V:List Int
 R:List Int
 O:List Int
 ord:List Int
structure TC where
 M:List Int
 F:List Int
def pAo (H:List AO) (_g:Gm):Nat:=H.length
def pA (H:List AO) (_g:Gm) (i:Nat):Nat:=H.length+1+i
def pPo (H:List AO) (g:Gm):Nat:=H.length+1+g.is.length
def pP (H:List AO) (g:Gm) (i:Nat):Nat:=H.length+2+g.is.length+i
def pM (H:List AO) (g:Gm):Nat:=H.length+4+2*g.is.length
def pF (H:List AO) (g:Gm):Nat:=H.length+5+2*g.is.length
def pSo (H:List AO) (g:Gm):Nat:=H.length+7+2*g.is.length
def pS (H:List AO) (g:Gm) (i:Nat):Nat:=H.length+9+2*g.is.length+2*i
def pW (H:List AO) (g:Gm):Nat:=H.length+8+4*g.is.length
def pV (H:List AO) (g:Gm):Nat:=H.length+9+4*g.is.length
def pR (H:List AO) (g:Gm):Nat:=H.length+10+4*g.is.length
def pO (H:List AO) (g:Gm):Nat:=H.length+11+4*g.is.length
def pE (H:List AO) (g:Gm):Nat:=H.length+12+4*g.is.length
def outs (I:Nat) (p:Nat->Nat) (n:Nat->Nat) (ver:Nat):List SV:=(List.range I).map fun i=>.own (p i) 0 (n i) 1 ver
def wHead (g:Gm) (H:List AO) (s:TS):List SV :=
 [i64 g.pl,.slc (nds g.ns) g.ns.length,.slc (infs g.is) g.is.length,.own (pM H g) 0 g.ns.length 1 1,.own (pF H g) 0 g.is.length 1 1,i64 s.rnd,i64 s.seed,.own (pAo H g) 0 g.is.length 1 0,.own (pPo H g) 0 g.is.length 1 0,.own (pSo H g) 0 g.is.length 1 0,
  .own (pV H g) 0 g.ns.length 4 1,.own (pR H g) 0 g.ns.length 4 1,.own (pO H g) 0 g.ns.length 4 1]
def wObj (g:Gm) (H:List AO) (s:TS):AO:=oI (wHead g H s) s.ord [] 73 0
def Gm.acts (g:Gm) (i:Nat):Nat:=((g.is.getD i (0,0)).2).toNat
structure TL (g:Gm) (c:TC) (s:TS):Prop where
 A:∀ i,i<g.is.length->(s.A i).length=g.acts i
 P:∀ i,i<g.is.length->(s.P i).length=g.acts i
 S:∀ i,i<g.is.length->(s.S i).length=g.acts i
 V:s.V.length=4*g.ns.length
 R:s.R.length=4*g.ns.length
 O:s.O.length=4*g.ns.length
 ord:s.ord.length=10
 M:c.M.length=g.ns.length
 F:c.F.length=g.is.length
structure TW (g:Gm) (H:List AO) (c:TC) (s:TS) (G:List AO):Prop where
 l:TL g c s
 len:G.length=pE H g
 low:∀ i,i<H.length->G[i]? = H[i]?
 cl:closed G
 w:G[pW H g]? = some (wObj g H s)
 m:G[pM H g]? = some ⟨ints c.M,3,1,true⟩
 f:G[pF H g]? = some ⟨ints c.F,3,1,true⟩
 ao:G[pAo H g]? = some ⟨outs g.is.length (pA H g) g.acts 1,36,0,true⟩
 a:∀ i,i<g.is.length->G[pA H g i]? = some ⟨ints (s.A i),3,1,true⟩
 po:G[pPo H g]? = some ⟨outs g.is.length (pP H g) g.acts 1,36,0,true⟩
 p:∀ i,i<g.is.length->G[pP H g i]? = some ⟨ints (s.P i),3,1,true⟩
 so:G[pSo H g]? = some ⟨outs g.is.length (pS H g) g.acts 0,36,0,true⟩
 ss:∀ i,i<g.is.length->G[pS H g i]? = some ⟨ints (s.S i),3,0,true⟩
 v:G[pV H g]? = some ⟨ints s.V,101,1,true⟩
 r:G[pR H g]? = some ⟨ints s.R,101,1,true⟩
 o:G[pO H g]? = some ⟨ints s.O,101,1,true⟩
section
variable {g:Gm} {H G:List AO} {c:TC} {s:TS}
theorem TW.setV (h:TW g H c s G) {V:List Int} (hV:V.length=4*g.ns.length):TW g H c { s with V:=V } (G.set (pV H g) ⟨ints V,101,1,true⟩):=by
 have hlt:=getElem?_lt h.v
 have ne:∀ {j:Nat} {x:Option AO},pV H g≠j->G[j]? = x->(G.set (pV H g) ⟨ints V,101,1,true⟩)[j]? = x:=fun hn hx=>by rw[List.getElem?_set_ne hn]; exact hx
 constructor
 case l=>exact⟨h.l.A,h.l.P,h.l.S,hV,h.l.R,h.l.O,h.l.ord,h.l.M,h.l.F⟩
 case len=>simpa using h.len
 case cl=>exact closed_set h.cl _ (by simp)
 case v=>rw[List.getElem?_set_self hlt]
 case low=>intro i hi; exact ne (by unfold pV; omega) (h.low i hi)
 case a=>intro i hi; exact ne (by unfold pV pA; omega) (h.a i hi)
 case p=>intro i hi; exact ne (by unfold pV pP; omega) (h.p i hi)
 case ss=>intro i hi; exact ne (by unfold pV pS; omega) (h.ss i hi)
 case w=>exact ne (by unfold pV pW; omega) h.w
 case m=>exact ne (by unfold pV pM; omega) h.m
 case f=>exact ne (by unfold pV pF; omega) h.f
 case ao=>exact ne (by unfold pV pAo; omega) h.ao
 case po=>exact ne (by unfold pV pPo; omega) h.po
 case so=>exact ne (by unfold pV pSo; omega) h.so
 case r=>exact ne (by unfold pV pR; omega) h.r
 case o=>exact ne (by unfold pV pO; omega) h.o
theorem TW.setR (h:TW g H c s G) {X:List Int} (hV:X.length=4*g.ns.length):TW g H c { s with R:=X } (G.set (pR H g) ⟨ints X,101,1,true⟩):=by
 have hlt:=getElem?_lt h.r
 have ne:∀ {j:Nat} {x:Option AO},pR H g≠j->G[j]? = x->(G.set (pR H g) ⟨ints X,101,1,true⟩)[j]? = x:=fun hn hx=>by rw[List.getElem?_set_ne hn]; exact hx
 constructor
 case l=>exact⟨h.l.A,h.l.P,h.l.S,h.l.V,hV,h.l.O,h.l.ord,h.l.M,h.l.F⟩
 case len=>simpa using h.len
 case cl=>exact closed_set h.cl _ (by simp)
 case r=>rw[List.getElem?_set_self hlt]
 case low=>intro i hi; exact ne (by unfold pR; omega) (h.low i hi)
 case a=>intro i hi; exact ne (by unfold pR pA; omega) (h.a i hi)
 case p=>intro i hi; exact ne (by unfold pR pP; omega) (h.p i hi)
 case ss=>intro i hi; exact ne (by unfold pR pS; omega) (h.ss i hi)
 case w=>exact ne (by unfold pR pW; omega) h.w
 case m=>exact ne (by unfold pR pM; omega) h.m
 case f=>exact ne (by unfold pR pF; omega) h.f
 case ao=>exact ne (by unfold pR pAo; omega) h.ao
 case po=>exact ne (by unfold pR pPo; omega) h.po
 case so=>exact ne (by unfold pR pSo; omega) h.so
 case v=>exact ne (by unfold pR pV; omega) h.v
 case o=>exact ne (by unfold pR pO; omega) h.o
theorem TW.setO (h:TW g H c s G) {X:List Int} (hV:X.length=4*g.ns.length):TW g H c { s with O:=X } (G.set (pO H g) ⟨ints X,101,1,true⟩):=by
 have hlt:=getElem?_lt h.o
 have ne:∀ {j:Nat} {x:Option AO},pO H g≠j->G[j]? = x->(G.set (pO H g) ⟨ints X,101,1,true⟩)[j]? = x:=fun hn hx=>by rw[List.getElem?_set_ne hn]; exact hx
 constructor
 case l=>exact⟨h.l.A,h.l.P,h.l.S,h.l.V,h.l.R,hV,h.l.ord,h.l.M,h.l.F⟩
 case len=>simpa using h.len
 case cl=>exact closed_set h.cl _ (by simp)
 case o=>rw[List.getElem?_set_self hlt]
 case low=>intro i hi; exact ne (by unfold pO; omega) (h.low i hi)
 case a=>intro i hi; exact ne (by unfold pO pA; omega) (h.a i hi)
 case p=>intro i hi; exact ne (by unfold pO pP; omega) (h.p i hi)
 case ss=>intro i hi; exact ne (by unfold pO pS; omega) (h.ss i hi)
 case w=>exact ne (by unfold pO pW; omega) h.w
 case m=>exact ne (by unfold pO pM; omega) h.m
 case f=>exact ne (by unfold pO pF; omega) h.f
 case ao=>exact ne (by unfold pO pAo; omega) h.ao
 case po=>exact ne (by unfold pO pPo; omega) h.po
 case so=>exact ne (by unfold pO pSo; omega) h.so
 case r=>exact ne (by unfold pO pR; omega) h.r
 case v=>exact ne (by unfold pO pV; omega) h.v
end
end Go.Proofs.Ytogjmpkehjfecaa.Rc
namespace Go.Proofs.Ytogjmpkehjfecaa.Rc
open Go.Ab Go.Ab.Shr
theorem oc_at {G:List AO} {p:Nat} {c:List SV} {T:TypeId} {v:Nat} (h:G[p]? = some ⟨c,T,v,true⟩) (L:List AO):objCells (G++L) p v=c:=by
 rw[objCells_app L (getElem?_lt h)]; exact objCells_of (o:=⟨c,T,v,true⟩) h rfl
theorem so_at {G:List AO} {p:Nat} {o:AO} (h:G[p]? = some o) (L:List AO) (f:AO->AO):Ab.setObj (G++L) p f=G.set p (f o)++L:=by
 have hlt:=getElem?_lt h
 rw[setObj_some (o:=o) (by rw[List.getElem?_append_left hlt]; exact h),List.set_append_left _ _ hlt]
theorem outs_get {I:Nat} {p n:Nat->Nat} {ver i:Nat} (h:i<I):(outs I p n ver)[i]?.getD .any=.own (p i) 0 (n i) 1 ver:=by simp[outs,h]
@[simp] theorem outs_getG {I:Nat} {p n:Nat->Nat} {ver i:Nat} (h:i<(outs I p n ver).length):(outs I p n ver)[i]'h=.own (p i) 0 (n i) 1 ver:=by simp[outs]
@[simp] theorem outs_len (I:Nat) (p n:Nat->Nat) (ver:Nat):(outs I p n ver).length=I:=by simp[outs]
theorem ints_at {l:List Int} {i:Nat} (h:i<l.length):(ints l)[i]?.getD .any=i64 (l.getD i 0):=by simp[ints,h]
section
variable {l:List Nd} {i:Nat}
theorem nd0 (h:i<l.length):(nds l)[i*6]?.getD .any=i64 l[i].k:=by have:=nds_get (t:=0) h (by omega); rw[Nat.add_zero]at this; rw[this]; rfl
theorem nd1 (h:i<l.length):(nds l)[i*6+1]?.getD .any=i64 l[i].p:=by rw[nds_get h (by omega)]; rfl
theorem nd2 (h:i<l.length):(nds l)[i*6+2]?.getD .any=i64 l[i].i:=by rw[nds_get h (by omega)]; rfl
theorem nd3 (h:i<l.length):(nds l)[i*6+3]?.getD .any=.slc (ints l[i].nx) l[i].nx.length:=by rw[nds_get h (by omega)]; rfl
theorem nd4 (h:i<l.length):(nds l)[i*6+4]?.getD .any=.slc (ints l[i].ws) l[i].ws.length:=by rw[nds_get h (by omega)]; rfl
theorem nd5 (h:i<l.length):(nds l)[i*6+5]?.getD .any=.slc (ints l[i].ps) l[i].ps.length:=by rw[nds_get h (by omega)]; rfl
end
def brP (g:Gm) (S:Nat->List Int) (i k:Nat):Int:=match g.ns[i]? with
 | none=>0
 | some x=>if x.k=1 then x.ws.getD k 0 else(S x.i.toNat).getD k 0
def brW (g:Gm) (M:List Int) (i:Nat):Int:=match g.ns[i]? with
 | none=>0
 | some x=>if x.k=1 then M.getD i 0 else 65536
section
variable {g:Gm} {H G:List AO} {c:TC} {s:TS}
theorem TW.cw (h:TW g H c s G) (L:List AO):objCells (G++L) (pW H g) 0=wHead g H s++(ints s.ord++[]):=oc_at h.w L
theorem TW.ltw (h:TW g H c s G):pW H g<G.length:=getElem?_lt h.w
theorem mv_of (hW:Wg g) {i:Nat} (hi:i<g.ns.length) (hk:g.ns[i].k=2):g.ns[i].i.toNat<g.is.length∧(g.ns[i].i.toNat:Int)=g.ns[i].i∧g.acts g.ns[i].i.toNat=g.ns[i].nx.length∧1≤g.ns[i].nx.length∧g.ns[i].nx.length≤10:=by
 have h1:=hW.gd.inf (List.getElem_mem hi) hk
 have h2:=hW.ty (List.getElem_mem hi) hk
 have h3:=hW.gd.e _ (List.getElem_mem hi)
 refine⟨by omega,by omega,?_,?_⟩
 · simp[Gm.acts,h2]
 · unfold Nd.err Nd.move at h3
   rw[if_neg (by omega),if_neg (by omega),if_pos hk]at h3
   split at h3
   · omega
   · omega
theorem ch_of (hW:Wg g) {i:Nat} (hi:i<g.ns.length) (hk:g.ns[i].k=1):g.ns[i].ws.length=g.ns[i].nx.length∧1≤g.ns[i].nx.length∧g.ns[i].nx.length≤60∧∀ w∈g.ns[i].ws,1≤w∧w≤1000:=by
 have h3:=hW.gd.e _ (List.getElem_mem hi)
 unfold Nd.err Nd.chance at h3
 rw[if_neg (by omega),if_pos hk]at h3
 split at h3
 · omega
 · rename_i hn
   refine⟨by omega,by omega,by omega,fun w hw => ?_⟩
   unfold within at h3
   split at h3
   · omega
   · rename_i ha
     simp only[List.any_eq_true,not_exists,not_and,outR,Bool.or_eq_true,decide_eq_true_eq]at ha
     have:=ha w hw
     omega
theorem en_of (hW:Wg g) {i:Nat} (hi:i<g.ns.length) (hk:g.ns[i].k=3):g.ns[i].nx=[]∧(g.ns[i].ps.length:Int)=g.pl∧∀ w∈g.ns[i].ps,-1000000≤w∧w≤1000000:=by
 have h3:=hW.gd.e _ (List.getElem_mem hi)
 unfold Nd.err Nd.end at h3
 rw[if_neg (by omega),if_neg (by omega),if_neg (by omega)]at h3
 split at h3
 · omega
 · rename_i hn
   refine⟨List.eq_nil_of_length_eq_zero (by omega),by omega,fun w hw => ?_⟩
   unfold within at h3
   split at h3
   · omega
   · rename_i ha
     simp only[List.any_eq_true,not_exists,not_and,outR,Bool.or_eq_true,decide_eq_true_eq]at ha
     have:=ha w hw
     omega
theorem kd_of (hW:Wg g) {i:Nat} (hi:i<g.ns.length):g.ns[i].k=1∨g.ns[i].k=2∨g.ns[i].k=3:=by
 have h3:=hW.gd.e _ (List.getElem_mem hi)
 unfold Nd.err at h3
 split at h3
 · omega
 · omega
set_option maxRecDepth 10000 in
theorem ok70 (hW:Wg g) (h:TW g H c s G) (L:List AO) {i k:Nat} (hi:i<g.ns.length) (hk:k<g.ns[i].nx.length) :
 Ok Try.prog 70 [.ptr (.own (pW H g) 0 0 0 0) 0,i64 i,i64 k] (G++L) (.ret (.tup [i64 (brP g s.S i k),i64 (brW g c.M i)])) (G++L):=by
 have hw:=h.cw L
 have hlt:=h.ltw
 refine ok_fn hm Try.func70 c70 (by simp[show pW H g<G.length+L.length by omega]) fun hcl => ?_
 have hx:g.ns[i]? = some g.ns[i]:=List.getElem?_eq_getElem hi
 have hn:=hW.gd.n
 have hg3:g.ns[i].k=1∨g.ns[i].k=2:=by
  rcases kd_of hW hi with h | h | h
  · exact .inl h
  · exact .inr h
  · have:=(en_of hW hi h).1
    rw[this]at hk; simp at hk
 rcases hg3 with hk1 | hk2
 · obtain⟨a1,a2,a3,a4⟩:=ch_of hW hi hk1
   have hm0:=oc_at h.m L
   have hmi:i<c.M.length:=by rw[h.l.M]; exact hi
   have e1:brP g s.S i k=g.ns[i].ws.getD k 0:=by simp[brP,hx,hk1]
   have e2:brW g c.M i=c.M.getD i 0:=by simp[brW,hx,hk1]
   have hkw:k<g.ns[i].ws.length:=by omega
   rw[e1,e2]
   simp -implicitDefEqProofs[i70,r70,hw,wHead,hi,nd0 hi,nd4 hi,nds_len,hk1,hkw,hm0,hmi,ints_at hmi]
   repeat (refine⟨by omega,?_⟩)
   exact cv_id
 · obtain⟨a1,a2,a3,a4,a5⟩:=mv_of hW hi hk2
   have hso:=oc_at h.so L
   have hs:=oc_at (h.ss _ a1) L
   have hl:=h.l.S _ a1
   have e1:brP g s.S i k=(s.S g.ns[i].i.toNat).getD k 0:=by simp[brP,hx,hk2]
   have e2:brW g c.M i=65536:=by simp[brW,hx,hk2]
   have hks:k<(s.S g.ns[i].i.toNat).length:=by omega
   rw[e1,e2]
   simp -implicitDefEqProofs[i70,r70,hw,wHead,hi,nd0 hi,nd2 hi,nds_len,hk2,hso,outs_get a1,a1,hs,hks,ints_at hks,a3,hk]
   repeat (refine⟨by omega,?_⟩)
   exact cv_id
end
end Go.Proofs.Ytogjmpkehjfecaa.Rc
namespace Go.Proofs.Ytogjmpkehjfecaa.Rc
open Go.Ab Go.Ab.Shr
def accQ (g:Gm) (S:Nat->List Int) (V nx:List Int) (i q:Nat):Nat->Int
 | 0=>0
 | k+1=>IntKind.i64.wrap (accQ g S V nx i q k+IntKind.i64.wrap (V.getD ((nx.getD k 0).toNat*4+q) 0*brP g S i k))
def valQ (g:Gm) (M:List Int) (S:Nat->List Int) (V:List Int) (i q:Nat):Int:=match g.ns[i]? with
 | none=>0
 | some x=>if x.k=3 then IntKind.i64.wrap (x.ps.getD q 0*1024)else IntKind.i64.wrap ((accQ g S V x.nx i q x.nx.length).tdiv (brW g M i))
def plF (g:Gm) (f:Nat->Int):Nat->Int:=fun q=>if(q:Int)<g.pl then f q else 0
def mixF (q:Nat) (a b:Nat->Int):Nat->Int:=fun x=>if x<q then a x else b x
theorem mix_0 (a b:Nat->Int):mixF 0 a b=b:=by funext x; simp[mixF]
theorem mix_put (q:Nat) (a b:Nat->Int):put (mixF q a b) q (a q)=mixF (q+1) a b:=by
 funext x
 unfold put mixF
 by_cases h1:x=q
 · subst h1; simp
 · rw[if_neg h1]
   by_cases h2:x<q
   · rw[if_pos h2,if_pos (by omega)]
   · rw[if_neg h2,if_neg (by omega)]
theorem mix_at (q:Nat) (a b:Nat->Int):mixF q a b q=b q:=by simp[mixF]
theorem mix_all {g:Gm} {n:Nat} (h:(n:Int)=g.pl) (a b:Nat->Int):mixF n (plF g a) (plF g b)=plF g a:=by
 funext x
 unfold mixF plF
 by_cases h1:x<n
 · rw[if_pos h1]
 · rw[if_neg h1,if_neg (by omega),if_neg (by omega)]
def blk4 (V:List Int) (i:Nat) (f:Nat->Int):List Int:=V.take (i*4)++(rowF 4 f++V.drop (i*4+4))
theorem blk_len {V:List Int} {i n:Nat} (hV:V.length=4*n) (hi:i<n) (f:Nat->Int):(blk4 V i f).length=4*n:=by
 simp[blk4]; omega
theorem out_row {G:List AO} (L:List AO) (f:Nat->Int):objCells (G++⟨ints (rowF 4 f),101,0,true⟩::L) G.length 0=ints (rowF 4 f):=by
 rw[objCells_new0]; exact objCells_of (o:=⟨ints (rowF 4 f),101,0,true⟩) rfl rfl
section
variable {g:Gm} {H G:List AO} {c:TC} {s:TS}
set_option maxRecDepth 10000 in
theorem tlp50_2 (hW:Wg g) (h:TW g H c s G) {i k ch:Nat} {nx:List Int} (hc:ch<g.ns.length) (hnx:nx.getD k 0=ch) {x1 x12 x53 x54:SV} {N:Nat} {K:XE->Env->List AO->Prop}
 (hexit:∀ env,env.get 0=.ptr (.own (pW H g) 0 0 0 0) 0->env.get 1=x1->env.get 5=.ptr (.own G.length 0 0 0 0) 0->env.get 12=x12->env.get 53=x53->env.get 54=x54->env.get 55=i64 k →
  K (.exit 4) env (G++[⟨ints (rowF 4 (plF g fun q=>accQ g s.S s.V nx i q (k+1))),101,0,true⟩])) :
 ∀ (m q:Nat) (env:Env),((q+m:Nat):Int)=g.pl->env.get 0=.ptr (.own (pW H g) 0 0 0 0) 0->env.get 1=x1->env.get 5=.ptr (.own G.length 0 0 0 0) 0->env.get 10=i64 ch->env.get 11=i64 (brP g s.S i k)->env.get 12=x12 →
  env.get 53=x53->env.get 54=x54->env.get 55=i64 k->env.get 71=i64 g.pl->env.get 72=i64 q →
  LI Try.prog N drawB l50_2 env (G++[⟨ints (rowF 4 (mixF q (plF g fun q=>accQ g s.S s.V nx i q (k+1)) (plF g fun q=>accQ g s.S s.V nx i q k))),101,0,true⟩]) K:=by
 intro m
 induction m with
 | zero =>
  intro q env hq h0 h1 h5 h10 h11 h12 h53 h54 h55 h71 h72
  refine li_go hm l50_2.eq_1 ?_
  simp -implicitDefEqProofs[h71,h72,show ¬ (q:Int)<g.pl by omega]
  rw[mix_all (by omega)]
  exact hexit _ (by simp[h0]) (by simp[h1]) (by simp[h5]) (by simp[h12]) (by simp[h53]) (by simp[h54]) (by simp[h55])
 | succ m ih =>
  intro q env hq h0 h1 h5 h10 h11 h12 h53 h54 h55 h71 h72
  refine li_go hm l50_2.eq_1 ?_
  have hp4:=hW.gd.p4
  have hq4:q<4:=by omega
  have hqp:(q:Int)<g.pl:=by omega
  have hw:=fun L=>h.cw L
  have hv:=fun L=>oc_at h.v L
  have hl:=h.l.V
  have hcq:ch*4+q<s.V.length:=by omega
  have hG:=h.len
  have e1:accQ g s.S s.V nx i q (k+1)=IntKind.i64.wrap (accQ g s.S s.V nx i q k+IntKind.i64.wrap (s.V.getD (ch*4+q) 0*brP g s.S i k)):=by simp only[accQ,hnx]; simp
  have e2:(plF g fun q=>accQ g s.S s.V nx i q k) q=accQ g s.S s.V nx i q k:=by simp[plF,hqp]
  have e3:(plF g fun q=>accQ g s.S s.V nx i q (k+1)) q=accQ g s.S s.V nx i q (k+1):=by simp[plF,hqp]
  have e4:∀ f:Nat->Int,(ints (rowF 4 f))[q]?.getD .any=i64 (f q):=fun f=>by rw[ints_at (by simpa using hq4),rowF_getD hq4]
  have e5:∀ (f:Nat->Int) (y:Int),List.take q (ints (rowF 4 f))++i64 y::List.drop (q+1) (ints (rowF 4 f))=ints (rowF 4 (put f q y)):=fun f y=>by rw[ints_set (by simpa using hq4),rowF_set]
  have e6:=mix_put q (plF g fun q=>accQ g s.S s.V nx i q (k+1)) (plF g fun q=>accQ g s.S s.V nx i q k)
  have eV:s.V.getD (ch*4+q) 0=s.V[ch*4+q]:=by simp[hcq]
  rw[e3,e1,eV]at e6
  have e7:=mix_at q (plF g fun q=>accQ g s.S s.V nx i q (k+1)) (plF g fun q=>accQ g s.S s.V nx i q k)
  rw[e2]at e7
  generalize mixF q (plF g fun q=>accQ g s.S s.V nx i q (k+1)) (plF g fun q=>accQ g s.S s.V nx i q k)=f at *
  have hov:=fun(f:Nat->Int)=>out_row (G:=G) [] f
  simp -implicitDefEqProofs[h0,h1,h5,h10,h11,h12,h71,h72,hqp,hw,wHead,hv,hc,hcq,hq4,hov,e4,e5,e7,rowF_get hq4]
  repeat (refine⟨by omega,?_⟩)
  rw[e6]
  refine ih (q+1) _ (by omega) ?_ ?_ ?_ ?_ ?_ ?_ ?_ ?_ ?_ ?_ ?_
  · simp
  · simp
  · simp
  · simp
  · simp
  · simp
  · simp[h53]
  · simp[h54]
  · simp[h55]
  · simp
  · simp[wrap_suc (show q<9223372036854775807 by omega)]
set_option maxRecDepth 10000 in
theorem tlp50_1 (hW:Wg g) (h:TW g H c s G) {i:Nat} (hi:i<g.ns.length) {N:Nat} {K:XE->Env->List AO->Prop}
 (hexit:∀ env,env.get 0=.ptr (.own (pW H g) 0 0 0 0) 0->env.get 1=i64 i->env.get 5=.ptr (.own G.length 0 0 0 0) 0->env.get 8=i64 (brW g c.M i) →
  K (.exit 2) env (G++[⟨ints (rowF 4 (plF g fun q=>accQ g s.S s.V g.ns[i].nx i q g.ns[i].nx.length)),101,0,true⟩])) :
 ∀ (m k:Nat) (env:Env),k+m=g.ns[i].nx.length->(k≠0->env.get 8=i64 (brW g c.M i))->(m=0->k≠0)->env.get 0=.ptr (.own (pW H g) 0 0 0 0) 0->env.get 1=i64 i->env.get 5=.ptr (.own G.length 0 0 0 0) 0 →
  env.get 53=.slc (ints g.ns[i].nx) g.ns[i].nx.length->env.get 54=i64 g.ns[i].nx.length->env.get 55=i64 k →
  LI Try.prog N drawB l50_1 env (G++[⟨ints (rowF 4 (plF g fun q=>accQ g s.S s.V g.ns[i].nx i q k)),101,0,true⟩]) K:=by
 have hnx60:g.ns[i].nx.length≤60:=nx_of (hW.gd.e _ (List.getElem_mem hi))
 intro m
 induction m with
 | zero =>
  intro k env hk h8 hk0 h0 h1 h5 h53 h54 h55
  refine li_go hm l50_1.eq_1 ?_
  have e:k=g.ns[i].nx.length:=by omega
  subst e
  simp -implicitDefEqProofs[h54,h55]
  exact hexit _ (by simp[h0]) (by simp[h1]) (by simp[h5]) (by simp[h8 (hk0 rfl)])
 | succ m ih =>
  intro k env hk h8 hk0 h0 h1 h5 h53 h54 h55
  refine li_go hm l50_1.eq_1 ?_
  have hkl:k<g.ns[i].nx.length:=by omega
  have hch:=(hW.wf.nf i hi).ch _ (List.getElem_mem hkl)
  have hw:=fun L=>h.cw L
  simp -implicitDefEqProofs[h0,h1,h5,h53,h54,h55,hkl]
  refine⟨by omega,call_go (ok70 hW h _ hi hkl) ?_⟩
  simp -implicitDefEqProofs[h0,h1,h5,h53,h54,h55,hw,wHead]
  have hcn:((g.ns[i].nx[k].toNat:Nat):Int)=g.ns[i].nx[k]:=by omega
  have e0:=mix_0 (plF g fun q=>accQ g s.S s.V g.ns[i].nx i q (k+1)) (plF g fun q=>accQ g s.S s.V g.ns[i].nx i q k)
  rw[←e0]
  have hp:=hW.gd.p1
  refine tlp50_2 hW h (i:=i) (k:=k) (ch:=g.ns[i].nx[k].toNat) (nx:=g.ns[i].nx) (by omega) (by simp[hkl,hcn]) (x1:=i64 i) (x12:=i64 (brW g c.M i)) (x53:=.slc (ints g.ns[i].nx) g.ns[i].nx.length) (x54:=i64 g.ns[i].nx.length) (fun env g0 g1 g5 g12 g53 g54 g55 => ?_) g.pl.toNat 0 _ (by omega) (by simp) (by simp) (by simp) (by simp[hcn]) (by simp) (by simp) (by simp) (by simp) (by simp) (by simp) (by simp)
  simp -implicitDefEqProofs[g0,g1,g5,g12,g53,g54,g55]
  refine ih (k+1) _ (by omega) (fun _=>by simp) (fun _=>by omega) ?_ ?_ ?_ ?_ ?_ ?_
  · simp[g0]
  · simp[g1]
  · simp[g5]
  · simp[g53]
  · simp[g54]
  · simp[wrap_suc (show k<9223372036854775807 by omega)]
set_option maxRecDepth 10000 in
theorem tlp50_3 (hW:Wg g) {d:Int} (hd:d≠0) {f:Nat->Int} {x1:SV} {N:Nat} {K:XE->Env->List AO->Prop}
 (hexit:∀ env,env.get 0=.ptr (.own (pW H g) 0 0 0 0) 0->env.get 1=x1->env.get 5=.ptr (.own G.length 0 0 0 0) 0 →
  K (.exit 6) env (G++[⟨ints (rowF 4 (plF g fun q=>IntKind.i64.wrap ((f q).tdiv d))),101,0,true⟩])) :
 ∀ (m q:Nat) (env:Env),((q+m:Nat):Int)=g.pl->env.get 0=.ptr (.own (pW H g) 0 0 0 0) 0->env.get 1=x1->env.get 5=.ptr (.own G.length 0 0 0 0) 0->env.get 8=i64 d->env.get 98=i64 g.pl->env.get 99=i64 q →
  LI Try.prog N drawB l50_3 env (G++[⟨ints (rowF 4 (mixF q (plF g fun q=>IntKind.i64.wrap ((f q).tdiv d)) (plF g f))),101,0,true⟩]) K:=by
 have hp4:=hW.gd.p4
 intro m
 induction m with
 | zero =>
  intro q env hq h0 h1 h5 h8 h98 h99
  refine li_go hm l50_3.eq_1 ?_
  simp -implicitDefEqProofs[h98,h99,show ¬ (q:Int)<g.pl by omega]
  rw[mix_all (by omega)]
  exact hexit _ (by simp[h0]) (by simp[h1]) (by simp[h5])
 | succ m ih =>
  intro q env hq h0 h1 h5 h8 h98 h99
  refine li_go hm l50_3.eq_1 ?_
  have hq4:q<4:=by omega
  have hqp:(q:Int)<g.pl:=by omega
  have e4:∀ f:Nat->Int,(ints (rowF 4 f))[q]?.getD .any=i64 (f q):=fun f=>by rw[ints_at (by simpa using hq4),rowF_getD hq4]
  have e5:∀ (f:Nat->Int) (y:Int),List.take q (ints (rowF 4 f))++i64 y::List.drop (q+1) (ints (rowF 4 f))=ints (rowF 4 (put f q y)):=fun f y=>by rw[ints_set (by simpa using hq4),rowF_set]
  have e6:=mix_put q (plF g fun q=>IntKind.i64.wrap ((f q).tdiv d)) (plF g f)
  have e3:(plF g fun q=>IntKind.i64.wrap ((f q).tdiv d)) q=IntKind.i64.wrap ((f q).tdiv d):=by simp[plF,hqp]
  rw[e3]at e6
  have e7:=mix_at q (plF g fun q=>IntKind.i64.wrap ((f q).tdiv d)) (plF g f)
  have e2:(plF g f) q=f q:=by simp[plF,hqp]
  rw[e2]at e7
  generalize mixF q (plF g fun q=>IntKind.i64.wrap ((f q).tdiv d)) (plF g f)=F at *
  have hov:=fun(f:Nat->Int)=>out_row (G:=G) [] f
  simp -implicitDefEqProofs[h0,h1,h5,h8,h98,h99,hqp,hq4,hov,e4,e5,e7,rowF_get hq4,hd]
  repeat (refine⟨by omega,?_⟩)
  rw[e6]
  refine ih (q+1) _ (by omega) ?_ ?_ ?_ ?_ ?_ ?_
  · simp[h0]
  · simp[h1]
  · simp
  · simp
  · simp
  · simp[wrap_suc (show q<9223372036854775807 by omega)]
set_option maxRecDepth 10000 in
theorem tlp50_0 (hW:Wg g) {ps:List Int} (hps:(ps.length:Int)=g.pl) {x1:SV} {N:Nat} {K:XE->Env->List AO->Prop}
 (hexit:∀ env,env.get 0=.ptr (.own (pW H g) 0 0 0 0) 0->env.get 1=x1->env.get 5=.ptr (.own G.length 0 0 0 0) 0 →
  K (.exit 0) env (G++[⟨ints (rowF 4 (plF g fun q=>IntKind.i64.wrap (ps.getD q 0*1024))),101,0,true⟩])) :
 ∀ (m q:Nat) (env:Env),((q+m:Nat):Int)=g.pl->env.get 0=.ptr (.own (pW H g) 0 0 0 0) 0->env.get 1=x1->env.get 5=.ptr (.own G.length 0 0 0 0) 0->env.get 31=.slc (ints ps) ps.length->env.get 32=i64 ps.length->env.get 33=i64 q →
  LI Try.prog N drawB l50_0 env (G++[⟨ints (rowF 4 (mixF q (plF g fun q=>IntKind.i64.wrap (ps.getD q 0*1024)) (plF g fun _=>0))),101,0,true⟩]) K:=by
 have hp4:=hW.gd.p4
 intro m
 induction m with
 | zero =>
  intro q env hq h0 h1 h5 h31 h32 h33
  refine li_go hm l50_0.eq_1 ?_
  have e:q=ps.length:=by omega
  subst e
  simp -implicitDefEqProofs[h32,h33]
  rw[mix_all (by omega)]
  exact hexit _ (by simp[h0]) (by simp[h1]) (by simp[h5])
 | succ m ih =>
  intro q env hq h0 h1 h5 h31 h32 h33
  refine li_go hm l50_0.eq_1 ?_
  have hq4:q<4:=by omega
  have hqp:(q:Int)<g.pl:=by omega
  have hql:q<ps.length:=by omega
  have e5:∀ (f:Nat->Int) (y:Int),List.take q (ints (rowF 4 f))++i64 y::List.drop (q+1) (ints (rowF 4 f))=ints (rowF 4 (put f q y)):=fun f y=>by rw[ints_set (by simpa using hq4),rowF_set]
  have e6:=mix_put q (plF g fun q=>IntKind.i64.wrap (ps.getD q 0*1024)) (plF g fun _=>0)
  have e3:(plF g fun q=>IntKind.i64.wrap (ps.getD q 0*1024)) q=IntKind.i64.wrap (ps[q]*1024):=by simp[plF,hqp,hql]
  rw[e3]at e6
  generalize mixF q (plF g fun q=>IntKind.i64.wrap (ps.getD q 0*1024)) (plF g fun _=>0)=F at *
  have hov:=fun(f:Nat->Int)=>out_row (G:=G) [] f
  simp -implicitDefEqProofs[h0,h1,h5,h31,h32,h33,hql,hq4,hov,e5]
  repeat (refine⟨by omega,?_⟩)
  rw[e6]
  refine ih (q+1) _ (by omega) ?_ ?_ ?_ ?_ ?_ ?_
  · simp[h0]
  · simp[h1]
  · simp
  · simp
  · simp
  · simp[wrap_suc (show q<9223372036854775807 by omega)]
end
end Go.Proofs.Ytogjmpkehjfecaa.Rc
namespace Go.Proofs.Ytogjmpkehjfecaa.Rc
open Go.Ab Go.Ab.Shr
structure TC.Ok (g:Gm) (c:TC):Prop where
 m:∀ i (h:i<g.ns.length),g.ns[i].k=1->0<c.M.getD i 0
 f:∀ i,i<g.is.length->0≤c.F.getD i 0∧c.F.getD i 0<g.ns.length
theorem brW_ne {g:Gm} {c:TC} (h:c.Ok g) {i:Nat} (hi:i<g.ns.length):brW g c.M i≠0:=by
 have hx:g.ns[i]? = some g.ns[i]:=List.getElem?_eq_getElem hi
 simp only[brW,hx]
 split
 · rename_i hk; have:=h.m i hi hk; omega
 · decide
section
variable {g:Gm} {H G:List AO} {c:TC} {s:TS}
theorem TW.cw0 (h:TW g H c s G):objCells G (pW H g) 0=wHead g H s++(ints s.ord++[]):=by have:=h.cw []; rwa [List.append_nil]at this
theorem TW.fin (h:TW g H c s G) {L:List AO}:Cv G.length (.tup []) (G++L) (.tup []) G:=cv_drop rfl (Nat.le_refl _) h.cl rfl
theorem blk_ints (V:List Int) (i:Nat) (f:Nat->Int):List.take (i*4) (ints V)++(ints (rowF 4 f)++List.drop (i*4+4) (ints V))=ints (blk4 V i f):=by simp[ints,blk4]
theorem fin50 (h:TW g H c s G) {i:Nat} (hi:i<g.ns.length) {f:Nat->Int} {L:List AO} :
 FinQ G.length (fun out G'=>out=.ret (.tup [])∧TW g H c { s with V:=blk4 s.V i f } G') (.tup []) (G.set (pV H g) ⟨List.take (i*4) (ints s.V)++(ints (rowF 4 f)++List.drop (i*4+4) (ints s.V)),101,1,true⟩++L):=by
 rw[blk_ints]
 have h2:=h.setV (blk_len h.l.V hi f)
 have h3:=h2.fin (L:=L)
 rw[List.length_set]at h3
 exact⟨_,_,⟨rfl,h2⟩,h3⟩
set_option maxRecDepth 10000 in
theorem ok50 (hW:Wg g) (h:TW g H c s G) (hc:c.Ok g) {i:Nat} (hi:i<g.ns.length) :
 OkP Try.prog 50 [.ptr (.own (pW H g) 0 0 0 0) 0,i64 i] G fun out G'=>out=.ret (.tup [])∧TW g H c { s with V:=blk4 s.V i (plF g (valQ g c.M s.S s.V i)) } G':=by
 have hlt:=h.ltw
 have hx:g.ns[i]? = some g.ns[i]:=List.getElem?_eq_getElem hi
 have hw:=fun L=>h.cw L
 have hw0:=h.cw0
 have hn:=hW.gd.n
 have hp:=hW.gd.p1
 have hVl:=h.l.V
 have hcv:=fun L=>oc_at h.v L
 have hsv:=fun L f=>so_at h.v L f
 refine okP_fn hm Try.func50 c50 (by simp[hlt]) fun hcl => ?_
 have hk12:g.ns[i].k≠3->1≤g.ns[i].nx.length:=fun h3=>by
  rcases kd_of hW hi with h | h | h
  · exact(ch_of hW hi h).2.1
  · exact(mv_of hW hi h).2.2.2.1
  · exact absurd h h3
 by_cases hk:g.ns[i].k≠3
 · have ep:(fun q=>IntKind.i64.wrap ((accQ g s.S s.V g.ns[i].nx i q g.ns[i].nx.length).tdiv (brW g c.M i)))=valQ g c.M s.S s.V i:=by funext q; simp[valQ,hx,hk]
   simp -implicitDefEqProofs[i50,r50,hw,hw0,wHead,hi,nd0 hi,nd3 hi,nds_len,hk]
   repeat (refine⟨by omega,?_⟩)
   have e0:[i64 0,i64 0,i64 0,i64 0]=ints (rowF 4 (plF g fun q=>accQ g s.S s.V g.ns[i].nx i q 0)):=by
    simp[accQ,plF,rowF,ints,List.range_succ]
   rw[e0]
   refine tlp50_1 hW h hi (fun env g0 g1 g5 g8 => ?_) g.ns[i].nx.length 0 _ (by omega) (fun h=>absurd rfl h) (fun h=>by have:=hk12 hk; omega) (by simp) (by simp) (by simp) (by simp) (by simp) (by simp)
   simp -implicitDefEqProofs[g0,g1,g5,g8,hw,wHead]
   have e1:=mix_0 (plF g fun q=>IntKind.i64.wrap ((accQ g s.S s.V g.ns[i].nx i q g.ns[i].nx.length).tdiv (brW g c.M i))) (plF g fun q=>accQ g s.S s.V g.ns[i].nx i q g.ns[i].nx.length)
   rw[←e1]
   refine tlp50_3 (H:=H) hW (brW_ne hc hi) (x1:=i64 i) (fun env g0 g1 g5 => ?_) g.pl.toNat 0 _ (by omega) (by simp[g0]) (by simp[g1]) (by simp[g5]) (by simp[g8]) (by simp) (by simp)
   rw[ep]
   simp -implicitDefEqProofs[g0,g1,g5,hw,wHead,out_row,hcv,hsv,hi]
   exact⟨by omega,fin50 h hi⟩
 · have hk:g.ns[i].k=3:=by omega
   obtain⟨a1,a2,a3⟩:=en_of hW hi hk
   have ep:(fun q=>IntKind.i64.wrap (g.ns[i].ps.getD q 0*1024))=valQ g c.M s.S s.V i:=by funext q; simp[valQ,hx,hk]
   simp -implicitDefEqProofs[i50,r50,hw,hw0,wHead,hi,nd0 hi,nd5 hi,nds_len,hk]
   repeat (refine⟨by omega,?_⟩)
   have e0:[i64 0,i64 0,i64 0,i64 0]=ints (rowF 4 (mixF 0 (plF g fun q=>IntKind.i64.wrap (g.ns[i].ps.getD q 0*1024)) (plF g fun _=>0))):=by
    rw[mix_0]; simp[plF,rowF,ints,List.range_succ]
   rw[e0]
   refine tlp50_0 (H:=H) hW a2 (x1:=i64 i) (fun env g0 g1 g5 => ?_) g.pl.toNat 0 _ (by omega) (by simp) (by simp) (by simp) (by simp) (by simp) (by simp)
   rw[ep]
   simp -implicitDefEqProofs[g0,g1,g5,hw,wHead,out_row,hcv,hsv,hi]
   exact⟨by omega,fin50 h hi⟩
end
end Go.Proofs.Ytogjmpkehjfecaa.Rc
namespace Go.Proofs.Ytogjmpkehjfecaa.Rc
open Go.Ab Go.Ab.Shr
theorem oc0 {G:List AO} {p:Nat} {c:List SV} {T:TypeId} {v:Nat} (h:G[p]? = some ⟨c,T,v,true⟩):objCells G p v=c:=objCells_of (o:=⟨c,T,v,true⟩) h rfl
theorem blk_get {V:List Int} {n ch i q:Nat} (hV:V.length=4*n) (hc:ch<n) (hi:i<n) (hq:q<4) (hne:i≠ch) (f:Nat->Int):(blk4 V ch f).getD (i*4+q) 0=V.getD (i*4+q) 0:=by
 simp only[List.getD_eq_getElem?_getD,blk4]
 congr 1
 by_cases hlt:i<ch
 · rw[List.getElem?_append_left (by simp; omega),List.getElem?_take_of_lt (by omega)]
 · rw[List.getElem?_append_right (by simp; omega),List.getElem?_append_right (by simp; omega),List.getElem?_drop]
   congr 1
   simp; omega
theorem blk_self {V:List Int} {n ch q:Nat} (hV:V.length=4*n) (hc:ch<n) (hq:q<4) (f:Nat->Int):(blk4 V ch f).getD (ch*4+q) 0=f q:=by
 simp only[List.getD_eq_getElem?_getD,blk4]
 rw[List.getElem?_append_right (by simp; omega),List.getElem?_append_left (by simp; omega)]
 have:ch*4+q-(List.take (ch*4) V).length=q:=by simp; omega
 rw[this,List.getElem?_eq_getElem (by simpa using hq),rowF_get hq]; rfl
theorem blk_set {V:List Int} {n ch q:Nat} (hV:V.length=4*n) (hc:ch<n) (hq:q<4) (f:Nat->Int) (y:Int):(blk4 V ch f).set (ch*4+q) y=blk4 V ch (put f q y):=by
 unfold blk4
 have e:ch*4+q-(List.take (ch*4) V).length=q:=by simp; omega
 rw[List.set_append_right _ _ (by simp; omega),e,List.set_append_left _ _ (by simp; omega),rowF_set]
theorem put_mix {q:Nat} {a b:Nat->Int} (h:a q=b q):mixF q a b=mixF (q+1) a b:=by
 rw[←mix_put]
 funext x
 unfold put
 split
 · rename_i e; subst e; rw[mix_at,h]
 · rfl
def hisQ (g:Gm) (i q:Nat):Bool:=match g.ns[i]? with
 | none=>false
 | some x=>decide (x.k=2∧x.p=q)
def rowQ (V:List Int) (i q:Nat):Int:=V.getD (i*4+q) 0
def qoF (a part whole:Int):Int:=IntKind.i64.wrap ((IntKind.i64.wrap (a*part)).tdiv whole)
def rchF (g:Gm) (own:Bool) (S:Nat->List Int) (M R:List Int) (i k q:Nat):Int :=
 if hisQ g i q=own then qoF (R.getD (i*4+q) 0) (brP g S i k) (brW g M i)else R.getD (i*4+q) 0
theorem blk_cpy {V:List Int} {n ch i:Nat} (hV:V.length=4*n) (hi:i<n):List.take (ch*4) (ints V)++(List.take 4 (List.drop (i*4) (ints V))++List.drop (ch*4+4) (ints V))=ints (blk4 V ch (rowQ V i)):=by
 have e:List.take 4 (List.drop (i*4) V)=rowF 4 (rowQ V i):=by
  apply List.ext_getElem?
  intro q
  by_cases hq:q<4
  · rw[List.getElem?_take_of_lt hq,List.getElem?_drop,List.getElem?_eq_getElem (by omega),List.getElem?_eq_getElem (by simpa using hq),rowF_get hq]
    simp[rowQ,show i*4+q<V.length by omega]
  · rw[List.getElem?_eq_none (by simp; omega),List.getElem?_eq_none (by simp; omega)]
 simp only[blk4,<- e,ints,List.map_append,List.map_take,List.map_drop]
section
variable {g:Gm} {H:List AO} {c:TC}
set_option maxRecDepth 10000 in
theorem tlp51_1 (hW:Wg g) (hc:c.Ok g) {i k ch:Nat} (hi:i<g.ns.length) (hch:ch<g.ns.length) (hne:i≠ch) {s:TS} {R O:List Int} (hR:R.length=4*g.ns.length) (hO:O.length=4*g.ns.length) {x20 x21 x22:SV} {N:Nat} {K:XE->Env->List AO->Prop}
 (hexit:∀ env G',TW g H c { s with R:=blk4 R ch (mixF g.pl.toNat (rchF g false s.S c.M R i k) (rowQ R i)),O:=blk4 O ch (mixF g.pl.toNat (rchF g true s.S c.M O i k) (rowQ O i)) } G' →
  env.get 0=.ptr (.own (pW H g) 0 0 0 0) 0->env.get 1=i64 i->env.get 4=.ptr (.slc (nds g.ns) g.ns.length) (i*6)->env.get 20=x20->env.get 21=x21->env.get 22=x22->K (.exit 2) env G') :
 ∀ (m q:Nat) (env:Env) (G:List AO),((q+m:Nat):Int)=g.pl →
  TW g H c { s with R:=blk4 R ch (mixF q (rchF g false s.S c.M R i k) (rowQ R i)),O:=blk4 O ch (mixF q (rchF g true s.S c.M O i k) (rowQ O i)) } G →
  env.get 0=.ptr (.own (pW H g) 0 0 0 0) 0->env.get 1=i64 i->env.get 4=.ptr (.slc (nds g.ns) g.ns.length) (i*6)->env.get 6=i64 ch->env.get 7=i64 (brP g s.S i k)->env.get 8=i64 (brW g c.M i)->env.get 20=x20->env.get 21=x21->env.get 22=x22->env.get 64=i64 g.pl->env.get 65=i64 q →
  LI Try.prog N drawB l51_1 env G K:=by
 have hp4:=hW.gd.p4
 have hn:=hW.gd.n
 have hx:g.ns[i]? = some g.ns[i]:=List.getElem?_eq_getElem hi
 have hwn:=brW_ne hc hi
 intro m
 induction m with
 | zero =>
  intro q env G hq h h0 h1 h4 h6 h7 h8 h20 h21 h22 h64 h65
  refine li_go hm l51_1.eq_1 ?_
  have e:q=g.pl.toNat:=by omega
  rw[e]at h
  simp -implicitDefEqProofs[h64,h65,show ¬ (q:Int)<g.pl by omega]
  exact hexit _ _ h (by simp[h0]) (by simp[h1]) (by simp[h4]) (by simp[h20]) (by simp[h21]) (by simp[h22])
 | succ m ih =>
  intro q env G hq h h0 h1 h4 h6 h7 h8 h20 h21 h22 h64 h65
  refine li_go hm l51_1.eq_1 ?_
  have hq4:q<4:=by omega
  have hqp:(q:Int)<g.pl:=by omega
  have hw:=h.cw0
  have w1:=wrap_suc (show q<9223372036854775807 by omega)
  by_cases hh:hisQ g i q=true
  · have hk:g.ns[i].k=2∧g.ns[i].p=q:=by simpa[hisQ,hx]using hh
    have eR:rchF g false s.S c.M R i k q=R.getD (i*4+q) 0:=by simp[rchF,hh]
    have eO:rchF g true s.S c.M O i k q=qoF (O.getD (i*4+q) 0) (brP g s.S i k) (brW g c.M i):=by simp[rchF,hh]
    have eP:=mix_put q (rchF g true s.S c.M O i k) (rowQ O i)
    rw[put_mix (q:=q) (a:=rchF g false s.S c.M R i k) (b:=(rowQ R i)) eR]at h
    have hO2:=oc0 h.o
    have hg:=blk_get hO hch hi hq4 hne (mixF q (rchF g true s.S c.M O i k) (rowQ O i))
    have hs:=blk_set hO hch hq4 (mixF q (rchF g true s.S c.M O i k) (rowQ O i))
    have hl:=blk_len hO hch (mixF q (rchF g true s.S c.M O i k) (rowQ O i))
    generalize hF:mixF q (rchF g true s.S c.M O i k) (rowQ O i)=F at *
    have hst:=setObj_some h.o
    have eI:(ints (blk4 O ch F))[i*4+q]?.getD .any=i64 (O.getD (i*4+q) 0):=by rw[ints_at (by omega),hg]
    have hse:∀ y:Int,List.take (ch*4+q) (ints (blk4 O ch F))++i64 y::List.drop (ch*4+q+1) (ints (blk4 O ch F))=ints (blk4 O ch (put F q y)):=fun y=>by rw[ints_set (by omega),hs]
    have hF2:=h.setO (X:=blk4 O ch (put F q (qoF (O.getD (i*4+q) 0) (brP g s.S i k) (brW g c.M i)))) (blk_len hO hch _)
    rw[←eO,eP]at hF2
    simp only[qoF]at eO
    generalize O.getD (i*4+q) 0=y at *
    simp -implicitDefEqProofs[h0,h1,h4,h6,h7,h8,h64,h65,hqp,hw,wHead,hi,nd0 hi,nd1 hi,nds_len,hk.1,hk.2,hO2,hch,hst,hq4,hl,hwn,eI,hse]
    repeat (refine⟨by omega,?_⟩)
    rw[←eO,eP]
    refine ih (q+1) _ _ (by omega) hF2 ?_ ?_ ?_ ?_ ?_ ?_ ?_ ?_ ?_ ?_ ?_
    · simp
    · simp
    · simp
    · simp
    · simp
    · simp
    · simp[h20]
    · simp[h21]
    · simp[h22]
    · simp
    · simp[w1]
  · have hh':hisQ g i q=false:=by simpa using hh
    have eR:rchF g false s.S c.M R i k q=qoF (R.getD (i*4+q) 0) (brP g s.S i k) (brW g c.M i):=by simp[rchF,hh']
    have eO:rchF g true s.S c.M O i k q=O.getD (i*4+q) 0:=by simp[rchF,hh']
    have eP:=mix_put q (rchF g false s.S c.M R i k) (rowQ R i)
    rw[put_mix (q:=q) (a:=rchF g true s.S c.M O i k) (b:=(rowQ O i)) eO]at h
    have hR2:=oc0 h.r
    have hg:=blk_get hR hch hi hq4 hne (mixF q (rchF g false s.S c.M R i k) (rowQ R i))
    have hs:=blk_set hR hch hq4 (mixF q (rchF g false s.S c.M R i k) (rowQ R i))
    have hl:=blk_len hR hch (mixF q (rchF g false s.S c.M R i k) (rowQ R i))
    generalize hF:mixF q (rchF g false s.S c.M R i k) (rowQ R i)=F at *
    have hst:=setObj_some h.r
    have eI:(ints (blk4 R ch F))[i*4+q]?.getD .any=i64 (R.getD (i*4+q) 0):=by rw[ints_at (by omega),hg]
    have hse:∀ y:Int,List.take (ch*4+q) (ints (blk4 R ch F))++i64 y::List.drop (ch*4+q+1) (ints (blk4 R ch F))=ints (blk4 R ch (put F q y)):=fun y=>by rw[ints_set (by omega),hs]
    have hF2:=h.setR (X:=blk4 R ch (put F q (qoF (R.getD (i*4+q) 0) (brP g s.S i k) (brW g c.M i)))) (blk_len hR hch _)
    rw[←eR,eP]at hF2
    simp only[qoF]at eR
    generalize R.getD (i*4+q) 0=y at *
    by_cases hk:g.ns[i].k=2
    · have hp:¬ g.ns[i].p=q:=fun e=>by simp[hisQ,hx,hk,e]at hh
      simp -implicitDefEqProofs[h0,h1,h4,h6,h7,h8,h64,h65,hqp,hw,wHead,hi,nd0 hi,nd1 hi,nds_len,hk,hp,hR2,hch,hst,hq4,hl,hwn,eI,hse]
      repeat (refine⟨by omega,?_⟩)
      rw[←eR,eP]
      refine ih (q+1) _ _ (by omega) hF2 ?_ ?_ ?_ ?_ ?_ ?_ ?_ ?_ ?_ ?_ ?_
      · simp
      · simp
      · simp
      · simp
      · simp
      · simp
      · simp[h20]
      · simp[h21]
      · simp[h22]
      · simp
      · simp[w1]
    · simp -implicitDefEqProofs[h0,h1,h4,h6,h7,h8,h64,h65,hqp,hw,wHead,hi,nd0 hi,nd1 hi,nds_len,hk,hR2,hch,hst,hq4,hl,hwn,eI,hse]
      repeat (refine⟨by omega,?_⟩)
      rw[←eR,eP]
      refine ih (q+1) _ _ (by omega) hF2 ?_ ?_ ?_ ?_ ?_ ?_ ?_ ?_ ?_ ?_ ?_
      · simp
      · simp
      · simp
      · simp
      · simp
      · simp
      · simp[h20]
      · simp[h21]
      · simp[h22]
      · simp
      · simp[w1]
def chR (g:Gm) (own:Bool) (S:Nat->List Int) (M R:List Int) (i k:Nat):List Int:=match g.ns[i]? with
 | none=>R
 | some x=>blk4 R (x.nx.getD k 0).toNat (mixF g.pl.toNat (rchF g own S M R i k) (rowQ R i))
def chsR (g:Gm) (own:Bool) (S:Nat->List Int) (M R:List Int) (i:Nat):Nat->List Int
 | 0=>R
 | k+1=>chR g own S M (chsR g own S M R i k) i k
theorem chs_len {g:Gm} (hW:Wg g) {own:Bool} {S:Nat->List Int} {M R:List Int} {i:Nat} (hi:i<g.ns.length) (hR:R.length=4*g.ns.length):∀ k,k≤g.ns[i].nx.length->(chsR g own S M R i k).length=4*g.ns.length
 | 0,_=>hR
 | k+1,hk=>by
  have hx:g.ns[i]? = some g.ns[i]:=List.getElem?_eq_getElem hi
  have h1:=chs_len hW hi hR k (by omega) (own:=own) (S:=S) (M:=M)
  have hkl:k<g.ns[i].nx.length:=by omega
  have hch:=(hW.wf.nf i hi).ch _ (List.getElem_mem hkl)
  simp only[chsR,chR,hx]
  have e:g.ns[i].nx.getD k 0=g.ns[i].nx[k]:=by simp[hkl]
  rw[e]
  exact blk_len h1 (by omega) _
set_option maxRecDepth 10000 in
theorem tlp51_0 (hW:Wg g) (hc:c.Ok g) {i:Nat} (hi:i<g.ns.length) {s:TS} {R O:List Int} (hR:R.length=4*g.ns.length) (hO:O.length=4*g.ns.length) {N:Nat} {K:XE->Env->List AO->Prop}
 (hexit:∀ env G',TW g H c { s with R:=chsR g false s.S c.M R i g.ns[i].nx.length,O:=chsR g true s.S c.M O i g.ns[i].nx.length } G'->K (.exit 0) env G') :
 ∀ (m k:Nat) (env:Env) (G:List AO),k+m=g.ns[i].nx.length →
  TW g H c { s with R:=chsR g false s.S c.M R i k,O:=chsR g true s.S c.M O i k } G →
  env.get 0=.ptr (.own (pW H g) 0 0 0 0) 0->env.get 1=i64 i->env.get 4=.ptr (.slc (nds g.ns) g.ns.length) (i*6)->env.get 20=.slc (ints g.ns[i].nx) g.ns[i].nx.length->env.get 21=i64 g.ns[i].nx.length->env.get 22=i64 k →
  LI Try.prog N drawB l51_0 env G K:=by
 have hn:=hW.gd.n
 have hnx60:g.ns[i].nx.length≤60:=nx_of (hW.gd.e _ (List.getElem_mem hi))
 have hx:g.ns[i]? = some g.ns[i]:=List.getElem?_eq_getElem hi
 have hp1:=hW.gd.p1
 have hp4:=hW.gd.p4
 intro m
 induction m with
 | zero =>
  intro k env G hk h h0 h1 h4 h20 h21 h22
  refine li_go hm l51_0.eq_1 ?_
  have e:k=g.ns[i].nx.length:=by omega
  subst e
  simp -implicitDefEqProofs[h21,h22]
  exact hexit _ _ h
 | succ m ih =>
  intro k env G hk h h0 h1 h4 h20 h21 h22
  refine li_go hm l51_0.eq_1 ?_
  have hkl:k<g.ns[i].nx.length:=by omega
  have hch:=(hW.wf.nf i hi).ch _ (List.getElem_mem hkl)
  have hcn:((g.ns[i].nx[k].toNat:Nat):Int)=g.ns[i].nx[k]:=by omega
  have hgd:g.ns[i].nx.getD k 0=g.ns[i].nx[k]:=by simp[hkl]
  have hRl:=chs_len hW hi hR k (by omega) (own:=false) (S:=s.S) (M:=c.M)
  have hOl:=chs_len hW hi hO k (by omega) (own:=true) (S:=s.S) (M:=c.M)
  have key1:chsR g false s.S c.M R i (k+1)=blk4 (chsR g false s.S c.M R i k) g.ns[i].nx[k].toNat (mixF g.pl.toNat (rchF g false s.S c.M (chsR g false s.S c.M R i k) i k) (rowQ (chsR g false s.S c.M R i k) i)):=by simp only[chsR,chR,hx,hgd]
  have key2:chsR g true s.S c.M O i (k+1)=blk4 (chsR g true s.S c.M O i k) g.ns[i].nx[k].toNat (mixF g.pl.toNat (rchF g true s.S c.M (chsR g true s.S c.M O i k) i k) (rowQ (chsR g true s.S c.M O i k) i)):=by simp only[chsR,chR,hx,hgd]
  have ih2:=fun(env:Env) (G:List AO)=>ih (k+1) env G (by omega)
  rw[key1,key2]at ih2
  generalize chsR g false s.S c.M R i k=R1 at *
  generalize chsR g true s.S c.M O i k=O1 at *
  have hw:=h.cw0
  have w1:=wrap_suc (show k<9223372036854775807 by omega)
  simp -implicitDefEqProofs[h0,h1,h4,h20,h21,h22,hkl]
  have hcall:=ok70 hW h [] hi hkl
  rw[List.append_nil]at hcall
  refine⟨by omega,call_go hcall ?_⟩
  generalize hc2:g.ns[i].nx[k].toNat=ch at *
  have hchn:ch<g.ns.length:=by omega
  rw[←hcn]
  have hR2:=oc0 h.r
  have hO2:=oc0 h.o
  have hs1:=setObj_some h.r
  have hA:=h.setR (X:=blk4 R1 ch (rowQ R1 i)) (blk_len hRl hchn _)
  have hs2:=setObj_some hA.o
  have hO3:=oc0 hA.o
  have hB:=hA.setO (X:=blk4 O1 ch (rowQ O1 i)) (blk_len hOl hchn _)
  have hw2:=hB.cw0
  have m1:min 4 (R1.length-i*4)=4:=by omega
  have m2:min 4 (O1.length-i*4)=4:=by omega
  have c1:∀ l:List Int,cellsOk (List.take 4 (List.drop (i*4) (ints l))):=fun l=>by rw[ints_drop,ints_take]; simp
  simp -implicitDefEqProofs[h0,h1,h4,h20,h21,h22,hw,hw2,wHead,hR2,hO2,hO3,hi,hchn,m1,m2,c1,hs1,hs2,blk_cpy hRl hi,blk_cpy hOl hi]
  repeat (refine⟨by omega,?_⟩)
  rw[←mix_0 (rchF g false s.S c.M R1 i k) (rowQ R1 i),<- mix_0 (rchF g true s.S c.M O1 i k) (rowQ O1 i)]at hB
  have hne:i≠ch:=by omega
  refine tlp51_1 (H:=H) hW hc (k:=k) hi hchn hne (s:=s) (R:=R1) (O:=O1) hRl hOl (x20:=.slc (ints g.ns[i].nx) g.ns[i].nx.length) (x21:=i64 g.ns[i].nx.length) (x22:=i64 k) (fun env G' hG' g0 g1 g4 g20 g21 g22 => ?_) g.pl.toNat 0 _ _ (by omega) ?_ (by simp) (by simp) (by simp) (by simp) (by simp) (by simp) (by simp) (by simp) (by simp) (by simp) (by simp)
  · simp -implicitDefEqProofs[g0,g1,g4,g20,g21,g22]
    refine ih2 _ _ hG' ?_ ?_ ?_ ?_ ?_ ?_
    · simp[g0]
    · simp[g1]
    · simp[g4]
    · simp[g20]
    · simp[g21]
    · simp[w1]
  · rw[mix_0,mix_0]at hB ⊢
    exact hB
set_option maxRecDepth 10000 in
theorem ok51 (hW:Wg g) (hc:c.Ok g) {s:TS} {G:List AO} (h:TW g H c s G) {i:Nat} (hi:i<g.ns.length) :
 OkP Try.prog 51 [.ptr (.own (pW H g) 0 0 0 0) 0,i64 i] G fun out G'=>out=.ret (.tup [])∧TW g H c { s with R:=chsR g false s.S c.M s.R i g.ns[i].nx.length,O:=chsR g true s.S c.M s.O i g.ns[i].nx.length } G':=by
 have hlt:=h.ltw
 have hn:=hW.gd.n
 have hw:=h.cw0
 refine okP_fn hm Try.func51 c51 (by simp[hlt]) fun hcl => ?_
 simp -implicitDefEqProofs[i51,r51,hw,wHead,hi,nd3 hi,nds_len]
 repeat (refine⟨by omega,?_⟩)
 refine tlp51_0 (H:=H) hW hc hi (s:=s) (R:=s.R) (O:=s.O) h.l.R h.l.O (fun env G' hG' => ?_) g.ns[i].nx.length 0 _ _ (by omega) h (by simp) (by simp) (by simp) (by simp) (by simp) (by simp)
 simp -implicitDefEqProofs
 exact⟨_,_,⟨rfl,hG'⟩,cv_id⟩
end
end Go.Proofs.Ytogjmpkehjfecaa.Rc
namespace Go.Proofs.Ytogjmpkehjfecaa.Rc
open Go.Ab Go.Ab.Shr
def upA (A:Nat->List Int) (j:Nat) (X:List Int):Nat->List Int:=fun k=>if k=j then X else A k
theorem upA_self (A:Nat->List Int) (j:Nat) (X:List Int):upA A j X j=X:=by simp[upA]
theorem upA_up (A:Nat->List Int) (j:Nat) (X Y:List Int):upA (upA A j X) j Y=upA A j Y:=by funext k; simp only[upA]; split<;>rfl
theorem upA_id (A:Nat->List Int) (j:Nat):upA A j (A j)=A:=by funext k; simp only[upA]; split; rename_i e; rw[e]; rfl
theorem rowF_self (l:List Int):rowF l.length (fun a=>l.getD a 0)=l:=by
 apply List.ext_getElem?
 intro j
 by_cases h:j<l.length
 · rw[List.getElem?_eq_getElem (by simpa using h),rowF_get h,List.getElem?_eq_getElem h]; simp[h]
 · rw[List.getElem?_eq_none (by simp; omega),List.getElem?_eq_none (by omega)]
theorem mp_of {g:Gm} (hW:Wg g) {i:Nat} (hi:i<g.ns.length) (hk:g.ns[i].k=2):0≤g.ns[i].p∧g.ns[i].p<g.pl:=by
 have h3:=hW.gd.e _ (List.getElem_mem hi)
 unfold Nd.err Nd.move at h3
 rw[if_neg (by omega),if_neg (by omega),if_pos hk]at h3
 split at h3
 · omega
 · split at h3
   · rename_i h4; exact absurd h3 h4
   · rename_i h4
     rw[within1]at h4
     split at h4
     · exact absurd (by decide) h4
     · omega
def dltA (g:Gm) (V R:List Int) (i a:Nat):Int:=match g.ns[i]? with
 | none=>0
 | some x=>IntKind.i64.wrap ((IntKind.i64.wrap (R.getD (i*4+x.p.toNat) 0*IntKind.i64.wrap (V.getD ((x.nx.getD a 0).toNat*4+x.p.toNat) 0-V.getD (i*4+x.p.toNat) 0))).tdiv 1073741824)
def lrnA (g:Gm) (V R:List Int) (A:Nat->List Int) (i:Nat):Nat->List Int:=match g.ns[i]? with
 | none=>A
 | some x=>if x.k=2 then upA A x.i.toNat (rowF x.nx.length fun a=>IntKind.i64.wrap ((A x.i.toNat).getD a 0+dltA g V R i a))else A
section
variable {g:Gm} {H G:List AO} {c:TC} {s:TS}
theorem TW.setA (h:TW g H c s G) {j:Nat} (hj:j<g.is.length) {X:List Int} (hX:X.length=g.acts j):TW g H c { s with A:=upA s.A j X } (G.set (pA H g j) ⟨ints X,3,1,true⟩):=by
 have hlt:=getElem?_lt (h.a j hj)
 have ne:∀ {k:Nat} {x:Option AO},pA H g j≠k->G[k]? = x->(G.set (pA H g j) ⟨ints X,3,1,true⟩)[k]? = x:=fun hn hx=>by rw[List.getElem?_set_ne hn]; exact hx
 constructor
 case l=>exact⟨fun i hi=>by simp only[upA]; split; rename_i e; rw[e]; exact hX; exact h.l.A i hi,h.l.P,h.l.S,h.l.V,h.l.R,h.l.O,h.l.ord,h.l.M,h.l.F⟩
 case len=>simpa using h.len
 case cl=>exact closed_set h.cl _ (by simp)
 case a => intro i hi; by_cases e : i = j
           · subst e; rw[List.getElem?_set_self hlt]; simp[upA]
           · simp only[upA,if_neg e]; exact ne (by unfold pA; omega) (h.a i hi)
 case low=>intro i hi; exact ne (by unfold pA; omega) (h.low i hi)
 case p=>intro i hi; exact ne (by unfold pA pP; omega) (h.p i hi)
 case ss=>intro i hi; exact ne (by unfold pA pS; omega) (h.ss i hi)
 case w=>exact ne (by unfold pA pW; omega) h.w
 case m=>exact ne (by unfold pA pM; omega) h.m
 case f=>exact ne (by unfold pA pF; omega) h.f
 case ao=>exact ne (by unfold pA pAo; omega) h.ao
 case po=>exact ne (by unfold pA pPo; omega) h.po
 case so=>exact ne (by unfold pA pSo; omega) h.so
 case v=>exact ne (by unfold pA pV; omega) h.v
 case r=>exact ne (by unfold pA pR; omega) h.r
 case o=>exact ne (by unfold pA pO; omega) h.o
theorem TW.setP (h:TW g H c s G) {j:Nat} (hj:j<g.is.length) {X:List Int} (hX:X.length=g.acts j):TW g H c { s with P:=upA s.P j X } (G.set (pP H g j) ⟨ints X,3,1,true⟩):=by
 have hlt:=getElem?_lt (h.p j hj)
 have ne:∀ {k:Nat} {x:Option AO},pP H g j≠k->G[k]? = x->(G.set (pP H g j) ⟨ints X,3,1,true⟩)[k]? = x:=fun hn hx=>by rw[List.getElem?_set_ne hn]; exact hx
 constructor
 case l=>exact⟨h.l.A,fun i hi=>by simp only[upA]; split; rename_i e; rw[e]; exact hX; exact h.l.P i hi,h.l.S,h.l.V,h.l.R,h.l.O,h.l.ord,h.l.M,h.l.F⟩
 case len=>simpa using h.len
 case cl=>exact closed_set h.cl _ (by simp)
 case p => intro i hi; by_cases e : i = j
           · subst e; rw[List.getElem?_set_self hlt]; simp[upA]
           · simp only[upA,if_neg e]; exact ne (by unfold pP; omega) (h.p i hi)
 case low=>intro i hi; exact ne (by unfold pP; omega) (h.low i hi)
 case a=>intro i hi; exact ne (by unfold pA pP; omega) (h.a i hi)
 case ss=>intro i hi; exact ne (by unfold pP pS; omega) (h.ss i hi)
 case w=>exact ne (by unfold pP pW; omega) h.w
 case m=>exact ne (by unfold pP pM; omega) h.m
 case f=>exact ne (by unfold pP pF; omega) h.f
 case ao=>exact ne (by unfold pP pAo; omega) h.ao
 case po=>exact ne (by unfold pP pPo; omega) h.po
 case so=>exact ne (by unfold pP pSo; omega) h.so
 case v=>exact ne (by unfold pP pV; omega) h.v
 case r=>exact ne (by unfold pP pR; omega) h.r
 case o=>exact ne (by unfold pP pO; omega) h.o
set_option maxRecDepth 10000 in
theorem tlp52_0 (hW:Wg g) {i:Nat} (hi:i<g.ns.length) (hk:g.ns[i].k=2) {A:Nat->List Int} (hA:(A g.ns[i].i.toNat).length=g.ns[i].nx.length) {N:Nat} {K:XE->Env->List AO->Prop}
 (hexit:∀ env G',TW g H c { s with A:=upA A g.ns[i].i.toNat (rowF g.ns[i].nx.length fun a=>IntKind.i64.wrap ((A g.ns[i].i.toNat).getD a 0+dltA g s.V s.R i a)) } G'->K (.exit 0) env G') :
 ∀ (m a:Nat) (env:Env) (G:List AO),a+m=g.ns[i].nx.length →
  TW g H c { s with A:=upA A g.ns[i].i.toNat (rowF g.ns[i].nx.length (mixF a (fun a=>IntKind.i64.wrap ((A g.ns[i].i.toNat).getD a 0+dltA g s.V s.R i a)) fun a=>(A g.ns[i].i.toNat).getD a 0)) } G →
  env.get 0=.ptr (.own (pW H g) 0 0 0 0) 0->env.get 1=i64 i->env.get 5=.own (pA H g g.ns[i].i.toNat) 0 g.ns[i].nx.length 1 1->env.get 6=i64 g.ns[i].p->env.get 39=.slc (ints g.ns[i].nx) g.ns[i].nx.length->env.get 40=i64 g.ns[i].nx.length->env.get 41=i64 a →
  LI Try.prog N drawB l52_0 env G K:=by
 have hn:=hW.gd.n
 have hx:g.ns[i]? = some g.ns[i]:=List.getElem?_eq_getElem hi
 obtain⟨a1,a2,a3,a4,a5⟩:=mv_of hW hi hk
 obtain⟨p1,p2⟩:=mp_of hW hi hk
 have hp4:=hW.gd.p4
 have hpn:((g.ns[i].p.toNat:Nat):Int)=g.ns[i].p:=by omega
 intro m
 induction m with
 | zero =>
  intro a env G ha h h0 h1 h5 h6 h39 h40 h41
  refine li_go hm l52_0.eq_1 ?_
  have e:a=g.ns[i].nx.length:=by omega
  subst e
  simp -implicitDefEqProofs[h40,h41]
  refine hexit _ _ ?_
  have e2:rowF g.ns[i].nx.length (mixF g.ns[i].nx.length (fun a=>IntKind.i64.wrap ((A g.ns[i].i.toNat).getD a 0+dltA g s.V s.R i a)) fun a=>(A g.ns[i].i.toNat).getD a 0)=rowF g.ns[i].nx.length fun a=>IntKind.i64.wrap ((A g.ns[i].i.toNat).getD a 0+dltA g s.V s.R i a):=by
   unfold rowF
   apply List.map_congr_left
   intro x hx
   simp only[List.mem_range]at hx
   simp only[mixF,if_pos hx]
  rw[e2]at h
  exact h
 | succ m ih =>
  intro a env G ha h h0 h1 h5 h6 h39 h40 h41
  refine li_go hm l52_0.eq_1 ?_
  have hal:a<g.ns[i].nx.length:=by omega
  have hch:=(hW.wf.nf i hi).ch _ (List.getElem_mem hal)
  have hcn:((g.ns[i].nx[a].toNat:Nat):Int)=g.ns[i].nx[a]:=by omega
  have hw:=h.cw0
  have hr:=oc0 h.r
  have hv:=oc0 h.v
  have hra:=oc0 (h.a _ a1)
  have hst:=setObj_some (h.a _ a1)
  have eD:dltA g s.V s.R i a=IntKind.i64.wrap ((IntKind.i64.wrap (s.R.getD (i*4+g.ns[i].p.toNat) 0*IntKind.i64.wrap (s.V.getD (g.ns[i].nx[a].toNat*4+g.ns[i].p.toNat) 0-s.V.getD (i*4+g.ns[i].p.toNat) 0))).tdiv 1073741824):=by simp[dltA,hx,hal]
  have eP:=mix_put a (fun a=>IntKind.i64.wrap ((A g.ns[i].i.toNat).getD a 0+dltA g s.V s.R i a)) fun a=>(A g.ns[i].i.toNat).getD a 0
  have eM:=mix_at a (fun a=>IntKind.i64.wrap ((A g.ns[i].i.toNat).getD a 0+dltA g s.V s.R i a)) fun a=>(A g.ns[i].i.toNat).getD a 0
  have hA2:=h.setA a1 (X:=rowF g.ns[i].nx.length (mixF (a+1) (fun a=>IntKind.i64.wrap ((A g.ns[i].i.toNat).getD a 0+dltA g s.V s.R i a)) fun a=>(A g.ns[i].i.toNat).getD a 0)) (by simp[a3])
  have w1:=wrap_suc (show a<9223372036854775807 by omega)
  have hlV:=h.l.V
  have hlR:=h.l.R
  simp only[upA_self]at hra hst
  simp only[upA_up]at hA2
  rw[←eP]at hA2
  have ih2:=fun(env:Env) (G:List AO)=>ih (a+1) env G (by omega)
  rw[←eP]at ih2
  generalize mixF a (fun a=>IntKind.i64.wrap ((A g.ns[i].i.toNat).getD a 0+dltA g s.V s.R i a)) (fun a=>(A g.ns[i].i.toNat).getD a 0)=F at *
  have e3:∀ y:Int,List.take a (ints (rowF g.ns[i].nx.length F))++i64 y::List.drop (a+1) (ints (rowF g.ns[i].nx.length F))=ints (rowF g.ns[i].nx.length (put F a y)):=fun y=>by rw[ints_set (by simpa using hal),rowF_set]
  have e4:(ints (rowF g.ns[i].nx.length F))[a]?.getD .any=i64 (F a):=by rw[ints_at (by simpa using hal),rowF_getD hal]
  have b1:i*4+g.ns[i].p.toNat<s.R.length:=by simp only at hlR; omega
  have b2:i*4+g.ns[i].p.toNat<s.V.length:=by simp only at hlV; omega
  have b3:g.ns[i].nx[a].toNat*4+g.ns[i].p.toNat<s.V.length:=by simp only at hlV; omega
  simp only at hr hv
  have eV1:s.V.getD (g.ns[i].nx[a].toNat*4+g.ns[i].p.toNat) 0=s.V[g.ns[i].nx[a].toNat*4+g.ns[i].p.toNat]:=by simp[b3]
  have eV2:s.V.getD (i*4+g.ns[i].p.toNat) 0=s.V[i*4+g.ns[i].p.toNat]:=by simp[b2]
  have eR1:s.R.getD (i*4+g.ns[i].p.toNat) 0=s.R[i*4+g.ns[i].p.toNat]:=by simp[b1]
  rw[eV1,eV2,eR1]at eD
  simp -implicitDefEqProofs[h0,h1,h5,h6,h39,h40,h41,hal,hw,hr,hv,hra,wHead,hi,b1,b2,b3,hst,e3,e4,rowF_get hal]
  repeat (refine⟨by omega,?_⟩)
  rw[←eD,eM]
  refine ih2 _ _ hA2 ?_ ?_ ?_ ?_ ?_ ?_ ?_
  · simp
  · simp
  · simp
  · simp
  · simp
  · simp
  · simp[w1]
set_option maxRecDepth 10000 in
theorem ok52 (hW:Wg g) (h:TW g H c s G) {i:Nat} (hi:i<g.ns.length) :
 OkP Try.prog 52 [.ptr (.own (pW H g) 0 0 0 0) 0,i64 i] G fun out G'=>out=.ret (.tup [])∧TW g H c { s with A:=lrnA g s.V s.R s.A i } G':=by
 have hlt:=h.ltw
 have hn:=hW.gd.n
 have hw:=h.cw0
 have hx:g.ns[i]? = some g.ns[i]:=List.getElem?_eq_getElem hi
 refine okP_fn hm Try.func52 c52 (by simp[hlt]) fun hcl => ?_
 by_cases hk:g.ns[i].k=2
 · obtain⟨a1,a2,a3,a4,a5⟩:=mv_of hW hi hk
   obtain⟨p1,p2⟩:=mp_of hW hi hk
   have hao:=oc0 h.ao
   have e:lrnA g s.V s.R s.A i=upA s.A g.ns[i].i.toNat (rowF g.ns[i].nx.length fun a=>IntKind.i64.wrap ((s.A g.ns[i].i.toNat).getD a 0+dltA g s.V s.R i a)):=by simp only[lrnA,hx,if_pos hk]
   have hl:(s.A g.ns[i].i.toNat).length=g.ns[i].nx.length:=by rw[h.l.A _ a1,a3]
   simp -implicitDefEqProofs[i52,r52,hw,wHead,hi,nd0 hi,nd1 hi,nd2 hi,nd3 hi,nds_len,hk,hao,outs_get a1,a1,a2,a3]
   repeat (refine⟨by omega,?_⟩)
   rw[e]
   have h0:TW g H c { s with A:=upA s.A g.ns[i].i.toNat (rowF g.ns[i].nx.length (mixF 0 (fun a=>IntKind.i64.wrap ((s.A g.ns[i].i.toNat).getD a 0+dltA g s.V s.R i a)) fun a=>(s.A g.ns[i].i.toNat).getD a 0)) } G:=by
    rw[mix_0,<- hl,rowF_self,upA_id]; exact h
   refine tlp52_0 (s:=s) hW hi hk hl (fun env G' hG' => ?_) g.ns[i].nx.length 0 _ _ (by omega) h0 (by simp) (by simp) (by simp) (by simp) (by simp) (by simp) (by simp)
   simp -implicitDefEqProofs
   exact⟨_,_,⟨rfl,hG'⟩,cv_id⟩
 · have e:lrnA g s.V s.R s.A i=s.A:=by simp only[lrnA,hx,if_neg hk]
   rw[e]
   simp -implicitDefEqProofs[i52,r52,hw,wHead,hi,nd0 hi,nds_len,hk]
   repeat (refine⟨by omega,?_⟩)
   exact⟨_,_,⟨rfl,h⟩,cv_id⟩
end
end Go.Proofs.Ytogjmpkehjfecaa.Rc
namespace Go.Proofs.Ytogjmpkehjfecaa.Rc
open Go.Ab Go.Ab.Shr
def okAt (s:TS) (i a:Nat):Prop:=¬ (s.A i).getD a 0 < -70368744177664∧¬ 70368744177664<(s.A i).getD a 0∧¬ 70368744177664<(s.P i).getD a 0
def okTS (g:Gm) (s:TS):Prop:=∀ i,i<g.is.length->∀ a,a<g.acts i->okAt s i a
def panV:SV:=.ifc 64 (.agg [i64 5])
theorem occ_head {s:Nat}:∀ {l:List Nd} {o:Nat} {a:Int} {r:List Int},occ s l o=a::r->∃ t,∃ ht:t<l.length,a=((o+t:Nat):Int)∧l[t].k=2∧l[t].i.toNat=s∧∀ u (hu:u<t),¬ (l[u].k=2∧l[u].i.toNat=s)
 | [],o,a,r,h=>by simp[occ]at h
 | x::l,o,a,r,h=>by
  unfold occ at h
  by_cases hc:x.k=2∧x.i.toNat=s
  · rw[if_pos hc]at h
    cases h
    exact⟨0,by simp,by simp,hc.1,hc.2,fun u hu=>by omega⟩
  · rw[if_neg hc]at h
    obtain⟨t,ht,h1,h2,h3,h4⟩:=occ_head h
    refine⟨t+1,by simp; omega,by rw[h1]; congr 1; omega,by simpa using h2,by simpa using h3,fun u hu => ?_⟩
    cases u with
    | zero=>simpa using hc
    | succ u=>simpa using h4 u (by omega)
theorem fn_of {g:Gm} (hW:Wg g) {i:Nat} (hi:i<g.is.length):∃ t,∃ ht:t<g.ns.length,(g.sets.getD i []).head? = some (t:Int)∧g.ns[t].k=2∧g.ns[t].i.toNat=i∧∀ u (hu:u<t),¬ (g.ns[u].k=2∧g.ns[u].i.toNat=i):=by
 have hl:i<g.sets.length:=by rw[sets_len]; exact hi
 have h0:=hW.ne i hl
 rw[sets_occ hl]at h0
 cases h:occ i g.ns 0 with
 | nil=>exact absurd h h0
 | cons a r =>
  obtain⟨t,ht,h1,h2,h3,h4⟩:=occ_head h
  refine⟨t,ht,?_,h2,h3,h4⟩
  rw[sets_at hi,h,h1]
  simp
theorem acts_le {g:Gm} (hW:Wg g) {i:Nat} (hi:i<g.is.length):1≤g.acts i∧g.acts i≤10:=by
 obtain⟨t,ht,_,h2,h3,_⟩:=fn_of hW hi
 obtain⟨a1,a2,a3,a4,a5⟩:=mv_of hW ht h2
 rw[h3]at a3
 omega
section
variable {g:Gm} {H G:List AO} {c:TC} {s:TS}
set_option maxRecDepth 10000 in
theorem tlp53_1 (hW:Wg g) (h:TW g H c s G) {i:Nat} (hi:i<g.is.length) {x10:SV} {N:Nat} {K:XE->Env->List AO->Prop}
 (hpan:¬ okTS g s->∀ env,K (.panic panV) env G)
 (hexit:(∀ a,a<g.acts i->okAt s i a)->∀ env,env.get 0=.ptr (.own (pW H g) 0 0 0 0) 0->env.get 10=x10->env.get 11=i64 i->K (.exit 2) env G) :
 ∀ (m a:Nat) (env:Env),a+m=g.acts i->(∀ b,b<a->okAt s i b)->env.get 0=.ptr (.own (pW H g) 0 0 0 0) 0->env.get 2=i64 i->env.get 10=x10->env.get 11=i64 i →
  env.get 21=.own (pA H g i) 0 (g.acts i) 1 1->env.get 22=i64 (g.acts i)->env.get 23=i64 a->LI Try.prog N drawB l53_1 env G K:=by
 have hac:=acts_le hW hi
 intro m
 induction m with
 | zero =>
  intro a env ha hb h0 h2 h10 h11 h21 h22 h23
  refine li_go hm l53_1.eq_1 ?_
  have e:a=g.acts i:=by omega
  subst e
  simp -implicitDefEqProofs[h22,h23]
  exact hexit hb _ (by simp[h0]) (by simp[h10]) (by simp[h11])
 | succ m ih =>
  intro a env ha hb h0 h2 h10 h11 h21 h22 h23
  refine li_go hm l53_1.eq_1 ?_
  have hal:a<g.acts i:=by omega
  have hw:=h.cw0
  have hA:=oc0 (h.a _ hi)
  have hP:=oc0 (h.p _ hi)
  have hpo:=oc0 h.po
  have lA:=h.l.A _ hi
  have lP:=h.l.P _ hi
  have bA:a<(s.A i).length:=by omega
  have bP:a<(s.P i).length:=by omega
  have gA:(s.A i).getD a 0=(s.A i)[a]:=by simp[bA]
  have gP:(s.P i).getD a 0=(s.P i)[a]:=by simp[bP]
  have bad:¬ okAt s i a->¬ okTS g s:=fun hn hk=>hn (hk i hi a hal)
  have w1:=wrap_suc (show a<9223372036854775807 by omega)
  by_cases c1:(s.A i)[a] < -70368744177664
  · simp -implicitDefEqProofs[h0,h2,h10,h11,h21,h22,h23,hal,hw,hA,hP,hpo,wHead,bA,bP,c1,outs_get hi,hi]
    repeat (refine⟨by omega,?_⟩)
    exact hpan (bad fun h=>h.1 (by rw[gA]; exact c1)) _
  · by_cases c2:70368744177664<(s.A i)[a]
    · simp -implicitDefEqProofs[h0,h2,h10,h11,h21,h22,h23,hal,hw,hA,hP,hpo,wHead,bA,bP,c1,c2,outs_get hi,hi]
      repeat (refine⟨by omega,?_⟩)
      exact hpan (bad fun h=>h.2.1 (by rw[gA]; exact c2)) _
    · by_cases c3:70368744177664<(s.P i)[a]
      · simp -implicitDefEqProofs[h0,h2,h10,h11,h21,h22,h23,hal,hw,hA,hP,hpo,wHead,bA,bP,c1,c2,c3,outs_get hi,hi]
        repeat (refine⟨by omega,?_⟩)
        exact hpan (bad fun h=>h.2.2 (by rw[gP]; exact c3)) _
      · simp -implicitDefEqProofs[h0,h2,h10,h11,h21,h22,h23,hal,hw,hA,hP,hpo,wHead,bA,bP,c1,c2,c3,outs_get hi,hi]
        repeat (refine⟨by omega,?_⟩)
        refine ih (a+1) _ (by omega) (fun b hb' => ?_) ?_ ?_ ?_ ?_ ?_ ?_ ?_
        rotate_left
        · simp
        · simp
        · simp[h10]
        · simp[h11]
        · simp
        · simp
        · simp[w1]
        by_cases e:b=a
        · subst e; exact⟨by rw[gA]; exact c1,by rw[gA]; exact c2,by rw[gP]; exact c3⟩
        · exact hb b (by omega)
set_option maxRecDepth 10000 in
theorem tlp53_0 (hW:Wg g) (h:TW g H c s G) {N:Nat} {K:XE->Env->List AO->Prop}
 (hpan:¬ okTS g s->∀ env,K (.panic panV) env G) (hexit:okTS g s->∀ env,K (.exit 0) env G) :
 ∀ (m i:Nat) (env:Env),i+m=g.is.length->(∀ j,j<i->∀ a,a<g.acts j->okAt s j a)->env.get 0=.ptr (.own (pW H g) 0 0 0 0) 0->env.get 10=i64 g.is.length->env.get 11=i64 i->LI Try.prog N drawB l53_0 env G K:=by
 have hil:=hW.gd.i
 intro m
 induction m with
 | zero =>
  intro i env ha hb h0 h10 h11
  refine li_go hm l53_0.eq_1 ?_
  have e:i=g.is.length:=by omega
  subst e
  simp -implicitDefEqProofs[h10,h11]
  exact hexit hb _
 | succ m ih =>
  intro i env ha hb h0 h10 h11
  refine li_go hm l53_0.eq_1 ?_
  have hi:i<g.is.length:=by omega
  have hw:=h.cw0
  have hao:=oc0 h.ao
  have w1:=wrap_suc (show i<9223372036854775807 by omega)
  have hac:=acts_le hW hi
  simp -implicitDefEqProofs[h0,h10,h11,hi,hw,hao,wHead,outs_get hi]
  repeat (refine⟨by omega,?_⟩)
  refine tlp53_1 hW h hi (x10:=i64 g.is.length) (fun hn env => ?_) (fun hk env g0 g10 g11 => ?_) (g.acts i) 0 _ (by omega) (fun b hb=>by omega) (by simp) (by simp) (by simp[h10]) (by simp[h11]) (by simp) (by simp) (by simp)
  · exact hpan hn _
  · simp -implicitDefEqProofs[g0,g10,g11]
    refine ih (i+1) _ (by omega) (fun j hj => ?_) ?_ ?_ ?_
    rotate_left
    · simp[g0]
    · simp[g10]
    · simp[w1]
    by_cases e:j=i
    · subst e; exact hk
    · exact hb j (by omega)
theorem ok53 (hW:Wg g) (h:TW g H c s G) :
 OkP Try.prog 53 [.ptr (.own (pW H g) 0 0 0 0) 0] G fun out G'=>G'=G∧((okTS g s∧out=.ret (.tup []))∨(¬ okTS g s∧out=.pan panV)):=by
 have hlt:=h.ltw
 have hw:=h.cw0
 refine okP_fn hm Try.func53 c53 (by simp[hlt]) fun hcl => ?_
 simp -implicitDefEqProofs[i53,r53,hw,wHead]
 refine tlp53_0 hW h (fun hn env => ?_) (fun hk env => ?_) g.is.length 0 _ (by omega) (fun j hj=>by omega) (by simp) (by simp) (by simp)
 · simp -implicitDefEqProofs
   exact⟨_,_,⟨rfl,.inr ⟨hn,rfl⟩⟩,cv_id⟩
 · simp -implicitDefEqProofs
   exact⟨_,_,⟨rfl,.inl ⟨hk,rfl⟩⟩,cv_id⟩
end
end Go.Proofs.Ytogjmpkehjfecaa.Rc
namespace Go.Proofs.Ytogjmpkehjfecaa.Rc
open Go.Ab Go.Ab.Shr
def shL (s:TS):Nat->TS
 | 0=>s
 | k+1=>{ shL s k with S:=upA (shL s k).S k (shrI (s.A k)),ord:=((ordI (s.A k)).map fun(n:Nat)=>(n:Int))++(shL s k).ord.drop (s.A k).length }
theorem shL_A (s:TS):∀ k,(shL s k).A=s.A∧(shL s k).P=s.P∧(shL s k).V=s.V∧(shL s k).R=s.R∧(shL s k).O=s.O∧(shL s k).rnd=s.rnd∧(shL s k).seed=s.seed
 | 0=>⟨rfl,rfl,rfl,rfl,rfl,rfl,rfl⟩
 | k+1=>shL_A s k
theorem ord_len (l:List Int):(ordI l).length=l.length:=by
 unfold ordI
 split
 · exact len_srt _
 · simp
section
variable {g:Gm} {H G:List AO} {c:TC} {s:TS}
theorem TW.setS (h:TW g H c s G) {j:Nat} (hj:j<g.is.length) {X q:List Int} (hX:X.length=g.acts j) (hq:q.length=10):TW g H c { s with S:=upA s.S j X,ord:=q } (G2 G (pS H g j) (pW H g) ⟨ints X,3,0,true⟩ (oI (wHead g H s) q [] 73 0)):=by
 have hlt:=getElem?_lt (h.ss j hj)
 have hlw:=h.ltw
 have hne:pS H g j≠pW H g:=by unfold pS pW; omega
 have ne:∀ {k:Nat} {x:Option AO},pS H g j≠k->pW H g≠k->G[k]? = x->(G2 G (pS H g j) (pW H g) ⟨ints X,3,0,true⟩ (oI (wHead g H s) q [] 73 0))[k]? = x:=fun hn hn2 hx=>by unfold G2; rw[List.getElem?_set_ne hn2,List.getElem?_set_ne hn]; exact hx
 constructor
 case l=>exact⟨h.l.A,h.l.P,fun i hi=>by simp only[upA]; split; rename_i e; rw[e]; exact hX; exact h.l.S i hi,h.l.V,h.l.R,h.l.O,hq,h.l.M,h.l.F⟩
 case len=>simpa using h.len
 case cl =>
   refine g2_closed h.cl (by simp) ?_
   have:=h.len
   simp only[oI,SV.underL_append,wHead,Bool.and_eq_true]
   unfold pE at this
   unfold pM pF pAo pPo pSo pV pR pO
   refine⟨?_,by simp⟩
   simp[nds_under,infs_under]
   omega
 case ss => intro i hi; by_cases e : i = j
            · subst e; have:=g2_a (L:=[]) hlt hne (o:=⟨ints X,3,0,true⟩) (p:=oI (wHead g H s) q [] 73 0); rw[List.append_nil]at this; rw[this]; simp[upA]
            · simp only[upA,if_neg e]; exact ne (by unfold pS; omega) (by unfold pW pS; omega) (h.ss i hi)
 case w=>have:=g2_k (L:=[]) hlw (a:=pS H g j) (o:=⟨ints X,3,0,true⟩) (p:=oI (wHead g H s) q [] 73 0); rw[List.append_nil]at this; exact this
 case a=>intro i hi; exact ne (by unfold pS pA; omega) (by unfold pW pA; omega) (h.a i hi)
 case low=>intro i hi; exact ne (by unfold pS; omega) (by unfold pW; omega) (h.low i hi)
 case p=>intro i hi; exact ne (by unfold pS pP; omega) (by unfold pW pP; omega) (h.p i hi)
 case m=>exact ne (by unfold pS pM; omega) (by unfold pW pM; omega) h.m
 case f=>exact ne (by unfold pS pF; omega) (by unfold pW pF; omega) h.f
 case ao=>exact ne (by unfold pS pAo; omega) (by unfold pW pAo; omega) h.ao
 case po=>exact ne (by unfold pS pPo; omega) (by unfold pW pPo; omega) h.po
 case so=>exact ne (by unfold pS pSo; omega) (by unfold pW pSo; omega) h.so
 case v=>exact ne (by unfold pS pV; omega) (by unfold pW pV; omega) h.v
 case r=>exact ne (by unfold pS pR; omega) (by unfold pW pR; omega) h.r
 case o=>exact ne (by unfold pS pO; omega) (by unfold pW pO; omega) h.o
theorem g2_same {k a:Nat} {o p:AO} (ho:G[a]? = some o) (hp:G[k]? = some p):G2 G a k o p=G:=by
 have h1:G.set a o=G:=by
  apply List.ext_getElem?
  intro i
  by_cases e:a=i
  · subst e; rw[List.getElem?_set_self (getElem?_lt ho),ho]
  · rw[List.getElem?_set_ne e]
 unfold G2
 rw[h1]
 apply List.ext_getElem?
 intro i
 by_cases e:k=i
 · subst e; rw[List.getElem?_set_self (getElem?_lt hp),hp]
 · rw[List.getElem?_set_ne e]
theorem ok38w (hW:Wg g) (h:TW g H c s G) (hk:okTS g s) {j:Nat} (hj:j<g.is.length) {A:Nat->List Int} (hA:s.A j=A j) :
 OkP Try.prog 38 [.own (pA H g j) 0 (g.acts j) 1 1,.own (pS H g j) 0 (g.acts j) 1 0,.own (pW H g) 13 (g.acts j) 1 0] G fun out G'=>out=.ret (.tup []) ∧
  TW g H c { s with S:=upA s.S j (shrI (A j)),ord:=((ordI (A j)).map fun(n:Nat)=>(n:Int))++s.ord.drop (A j).length } G':=by
 have hac:=acts_le hW hj
 have hl:=h.l.A j hj
 have hlo:=h.l.ord
 have hlS:=h.l.S j hj
 have hne:pS H g j≠pW H g:=by unfold pS pW; omega
 have hl2:(A j).length=g.acts j:=by rw[←hA]; exact hl
 have hP:P2 G (pS H g j) (pW H g):=⟨getElem?_lt (h.ss j hj),h.ltw,hne⟩
 have hG:G2 G (pS H g j) (pW H g) ⟨ints (s.S j),3,0,true⟩ (oI (wHead g H s) (s.ord.take (g.acts j)) (ints (s.ord.drop (g.acts j))) 73 0)=G:=by
  refine g2_same (h.ss j hj) ?_
  rw[h.w]
  have e:ints s.ord++[]=ints (s.ord.take (g.acts j))++ints (s.ord.drop (g.acts j)):=by
   simp only[List.append_nil,ints,<- List.map_append,List.take_append_drop]
  unfold wObj oI
  rw[e]
 have hu:=h.setS hj (X:=s.S j) (q:=s.ord) hlS hlo
 have hcu:=h.len
 have hC:SV.underL G.length (wHead g H s)=true:=by
  simp only[wHead]
  unfold pE at hcu
  unfold pM pF pAo pPo pSo pV pR pO
  simp[nds_under,infs_under]
  omega
 have hx:∀ (o p:List Int) (L:List AO),IsI (G2 G (pS H g j) (pW H g) ⟨ints o,3,0,true⟩ (oI (wHead g H s) p (ints (s.ord.drop (g.acts j))) 73 0)++L) (.own (pA H g j) 0 (g.acts j) 1 1) (s.A j):=fun o p L=>by
  have hat:(G2 G (pS H g j) (pW H g) ⟨ints o,3,0,true⟩ (oI (wHead g H s) p (ints (s.ord.drop (g.acts j))) 73 0)++L)[pA H g j]? = some ⟨ints (s.A j),3,1,true⟩:=by
   rw[List.getElem?_append_left (by rw[g2_len]; exact getElem?_lt (h.a j hj))]
   unfold G2
   rw[List.getElem?_set_ne (by unfold pW pA; omega),List.getElem?_set_ne (by unfold pS pA; omega)]
   exact h.a j hj
  have:=IsI.whole (H:=[]) (L:=G2 G (pS H g j) (pW H g) ⟨ints o,3,0,true⟩ (oI (wHead g H s) p (ints (s.ord.drop (g.acts j))) 73 0)++L) (k:=pA H g j) (n:=g.acts j) hat hl.symm
  simpa using this
 have hr:∀ v∈s.A j,-70368744177664≤v∧v≤70368744177664:=fun v hv=>by
  obtain⟨a,ha,rfl⟩:=List.getElem_of_mem hv
  have h1:=hk j hj a (by omega)
  have h2:(s.A j).getD a 0=(s.A j)[a]:=by simp[ha]
  unfold okAt at h1
  rw[h2]at h1
  omega
 have key:=ok38 (va:=0) (v:=0) (T:=73) (D:=ints (s.ord.drop (g.acts j))) (o0:=s.S j) (p0:=s.ord.take (g.acts j)) hP ⟨hC,by simp⟩ hx (by omega) (by omega) hr (by rw[hlS,hl]) (by rw[List.length_take,hl]; omega)
 rw[hG,hl]at key
 have hX:=h.setS hj (X:=shrI (A j)) (q:=((ordI (A j)).map fun(n:Nat)=>(n:Int))++s.ord.drop (A j).length) (by rw[shr_len,hl2]) (by simp[ord_len,hl2]; omega)
 have e:oN (wHead g H s) (ordI (s.A j)) (ints (s.ord.drop (g.acts j))) 73 0=oI (wHead g H s) (((ordI (A j)).map fun(n:Nat)=>(n:Int))++s.ord.drop (A j).length) [] 73 0:=by
  rw[hA,hl2]
  simp[oN,oI,nats,ints]
 rw[e,hA]at key
 exact key.toP.mono fun out G' hP=>by
  obtain⟨rfl,rfl⟩:=hP
  exact⟨rfl,hX⟩
end
end Go.Proofs.Ytogjmpkehjfecaa.Rc
namespace Go.Proofs.Ytogjmpkehjfecaa.Rc
open Go.Ab Go.Ab.Shr
theorem okTS_sh {g:Gm} {s:TS} (h:okTS g s) (k:Nat):okTS g (shL s k):=fun i hi a ha=>by
 obtain⟨h1,h2,_⟩:=shL_A s k
 have:=h i hi a ha
 unfold okAt at this ⊢
 rw[h1,h2]; exact this
def valL (g:Gm) (M:List Int) (S:Nat->List Int) (V:List Int):Nat->List Int
 | 0=>V
 | m+1=>blk4 (valL g M S V m) (g.ns.length-1-m) (plF g (valQ g M S (valL g M S V m) (g.ns.length-1-m)))
def desL (g:Gm) (own:Bool) (S:Nat->List Int) (M R:List Int):Nat->List Int
 | 0=>R
 | i+1=>chsR g own S M (desL g own S M R i) i (match g.ns[i]? with | none=>0 | some x=>x.nx.length)
def lrnL (g:Gm) (V R:List Int) (A:Nat->List Int):Nat->Nat->List Int
 | 0=>A
 | i+1=>lrnA g V R (lrnL g V R A i) i
section
variable {g:Gm} {H G:List AO} {c:TC} {s:TS}
set_option maxRecDepth 10000 in
theorem tlp30_0 (hW:Wg g) (hk:okTS g s) {N:Nat} {K:XE->Env->List AO->Prop}
 (hexit:∀ env G,env.get 0=.ptr (.own (pW H g) 0 0 0 0) 0->TW g H c (shL s g.is.length) G->K (.exit 0) env G) :
 ∀ (m i:Nat) (env:Env) (G:List AO),i+m=g.is.length->TW g H c (shL s i) G->env.get 0=.ptr (.own (pW H g) 0 0 0 0) 0->env.get 16=.own (pSo H g) 0 g.is.length 1 0->env.get 17=i64 g.is.length->env.get 18=i64 i->LI Try.prog N drawB l30_0 env G K:=by
 have hil:=hW.gd.i
 intro m
 induction m with
 | zero =>
  intro i env G hi h h0 h16 h17 h18
  refine li_go hm l30_0.eq_1 ?_
  have e:i=g.is.length:=by omega
  subst e
  simp -implicitDefEqProofs[h17,h18]
  exact hexit _ _ (by simp[h0]) h
 | succ m ih =>
  intro i env G hi h h0 h16 h17 h18
  refine li_go hm l30_0.eq_1 ?_
  have hii:i<g.is.length:=by omega
  have hw:=h.cw0
  have hao:=oc0 h.ao
  have hso:=oc0 h.so
  have hac:=acts_le hW hii
  have w1:=wrap_suc (show i<9223372036854775807 by omega)
  have hlo:=h.l.ord
  have hca:SV.cutA 1 0 (g.acts i) (.ptr (.own (pW H g) 0 0 0 0) 13)=.own (pW H g) 13 (g.acts i) 1 0:=by simp[SV.cutA]
  simp -implicitDefEqProofs[h0,h16,h17,h18,hii,hw,hao,hso,wHead,outs_get hii,hca]
  refine⟨by omega,by omega,call_goP (ok38w hW h (okTS_sh hk i) hii (A:=s.A) (by rw[(shL_A s i).1])) fun out G' hP => ?_⟩
  obtain⟨rfl,h2⟩:=hP
  have hw2:=h2.cw0
  simp -implicitDefEqProofs[h0,h16,h17,h18,hii,hw2,wHead]
  refine ih (i+1) _ _ (by omega) h2 ?_ ?_ ?_ ?_
  · simp
  · simp
  · simp
  · simp[w1]
set_option maxRecDepth 10000 in
theorem tlp30_1 (hW:Wg g) (hc:c.Ok g) {V:List Int} {N:Nat} {K:XE->Env->List AO->Prop}
 (hexit:∀ env G,env.get 0=.ptr (.own (pW H g) 0 0 0 0) 0->TW g H c { s with V:=valL g c.M s.S V g.ns.length } G->K (.exit 2) env G) :
 ∀ (m i:Nat) (env:Env) (G:List AO),i+m=g.ns.length->TW g H c { s with V:=valL g c.M s.S V i } G->env.get 0=.ptr (.own (pW H g) 0 0 0 0) 0->env.get 4=i64 ((g.ns.length:Int)-1-i)->LI Try.prog N drawB l30_1 env G K:=by
 have hn:=hW.gd.n
 intro m
 induction m with
 | zero =>
  intro i env G hi h h0 h4
  refine li_go hm l30_1.eq_1 ?_
  have e:i=g.ns.length:=by omega
  subst e
  have e2:((g.ns.length:Int)-1-g.ns.length) = -1:=by omega
  rw[e2]at h4
  simp -implicitDefEqProofs[h4]
  exact hexit _ _ (by simp[h0]) h
 | succ m ih =>
  intro i env G hi h h0 h4
  refine li_go hm l30_1.eq_1 ?_
  have hii:g.ns.length-1-i<g.ns.length:=by omega
  have e2:((g.ns.length:Int)-1-i)=((g.ns.length-1-i:Nat):Int):=by omega
  rw[e2]at h4
  have w1:IntKind.i64.wrap (((g.ns.length-1-i:Nat):Int)-1)=(g.ns.length:Int)-1-((i+1:Nat):Int):=by rw[wrap_id (by omega) (by omega)]; omega
  simp -implicitDefEqProofs[h0,h4]
  refine call_goP (ok50 hW h hc hii) fun out G' hP => ?_
  obtain⟨rfl,h2⟩:=hP
  simp -implicitDefEqProofs[h0,h4]
  refine ih (i+1) _ _ (by omega) h2 ?_ ?_
  · simp
  · simp[w1]
set_option maxRecDepth 10000 in
theorem tlp30_2 (hW:Wg g) {R O:List Int} (hR:R.length=4*g.ns.length) (hO:O.length=4*g.ns.length) {N:Nat} {K:XE->Env->List AO->Prop}
 (hexit:∀ env G,env.get 0=.ptr (.own (pW H g) 0 0 0 0) 0->TW g H c { s with R:=blk4 R 0 (mixF g.pl.toNat (fun _=>1073741824) (rowQ R 0)),O:=blk4 O 0 (mixF g.pl.toNat (fun _=>1073741824) (rowQ O 0)) } G->K (.exit 4) env G) :
 ∀ (m q:Nat) (env:Env) (G:List AO),((q+m:Nat):Int)=g.pl->TW g H c { s with R:=blk4 R 0 (mixF q (fun _=>1073741824) (rowQ R 0)),O:=blk4 O 0 (mixF q (fun _=>1073741824) (rowQ O 0)) } G->env.get 0=.ptr (.own (pW H g) 0 0 0 0) 0->env.get 58=i64 g.pl->env.get 59=i64 q->LI Try.prog N drawB l30_2 env G K:=by
 have hp4:=hW.gd.p4
 have hn1:=hW.gd.n1
 intro m
 induction m with
 | zero =>
  intro q env G hq h h0 h58 h59
  refine li_go hm l30_2.eq_1 ?_
  have e:q=g.pl.toNat:=by omega
  rw[e]at h
  simp -implicitDefEqProofs[h58,h59,show ¬ (q:Int)<g.pl by omega]
  exact hexit _ _ (by simp[h0]) h
 | succ m ih =>
  intro q env G hq h h0 h58 h59
  refine li_go hm l30_2.eq_1 ?_
  have hq4:q<4:=by omega
  have hqp:(q:Int)<g.pl:=by omega
  have hw:=h.cw0
  have eP:=mix_put q (fun _=>(1073741824:Int)) (rowQ R 0)
  have eP2:=mix_put q (fun _=>(1073741824:Int)) (rowQ O 0)
  have lR:=blk_len hR hn1 (mixF q (fun _=>(1073741824:Int)) (rowQ R 0))
  have lO:=blk_len hO hn1 (mixF q (fun _=>(1073741824:Int)) (rowQ O 0))
  have sR:=blk_set hR hn1 hq4 (mixF q (fun _=>(1073741824:Int)) (rowQ R 0)) 1073741824
  have sO:=blk_set hO hn1 hq4 (mixF q (fun _=>(1073741824:Int)) (rowQ O 0)) 1073741824
  rw[eP,Nat.zero_mul,Nat.zero_add]at sR
  rw[eP2,Nat.zero_mul,Nat.zero_add]at sO
  have hR2:=oc0 h.r
  have hs1:=setObj_some h.r
  have hA:=h.setR (X:=blk4 R 0 (mixF (q+1) (fun _=>(1073741824:Int)) (rowQ R 0))) (blk_len hR hn1 _)
  have hs2:=setObj_some hA.o
  have hO3:=oc0 hA.o
  have hB:=hA.setO (X:=blk4 O 0 (mixF (q+1) (fun _=>(1073741824:Int)) (rowQ O 0))) (blk_len hO hn1 _)
  have w1:=wrap_suc (show q<9223372036854775807 by omega)
  have ih2:=fun(env:Env) (G:List AO)=>ih (q+1) env G (by omega)
  generalize mixF (q+1) (fun _=>(1073741824:Int)) (rowQ R 0)=F1 at *
  generalize mixF (q+1) (fun _=>(1073741824:Int)) (rowQ O 0)=F2 at *
  generalize mixF q (fun _=>(1073741824:Int)) (rowQ R 0)=F3 at *
  generalize mixF q (fun _=>(1073741824:Int)) (rowQ O 0)=F4 at *
  have e3:List.take q (ints (blk4 R 0 F3))++i64 1073741824::List.drop (q+1) (ints (blk4 R 0 F3))=ints (blk4 R 0 F1):=by rw[ints_set (by omega),sR]
  have e4:List.take q (ints (blk4 O 0 F4))++i64 1073741824::List.drop (q+1) (ints (blk4 O 0 F4))=ints (blk4 O 0 F2):=by rw[ints_set (by omega),sO]
  simp -implicitDefEqProofs[h0,h58,h59,hqp,hw,wHead,hR2,hO3,hs1,hs2,e3,e4,hq4,lR,lO]
  repeat (refine⟨by omega,?_⟩)
  refine ih2 _ _ hB ?_ ?_ ?_
  · simp
  · simp
  · simp[w1]
set_option maxRecDepth 10000 in
theorem tlp30_3 (hW:Wg g) (hc:c.Ok g) {R O:List Int} {N:Nat} {K:XE->Env->List AO->Prop}
 (hexit:∀ env G,env.get 0=.ptr (.own (pW H g) 0 0 0 0) 0->TW g H c { s with R:=desL g false s.S c.M R g.ns.length,O:=desL g true s.S c.M O g.ns.length } G->K (.exit 6) env G) :
 ∀ (m i:Nat) (env:Env) (G:List AO),i+m=g.ns.length->TW g H c { s with R:=desL g false s.S c.M R i,O:=desL g true s.S c.M O i } G->env.get 0=.ptr (.own (pW H g) 0 0 0 0) 0->env.get 82=i64 g.ns.length->env.get 83=i64 i->LI Try.prog N drawB l30_3 env G K:=by
 have hn:=hW.gd.n
 intro m
 induction m with
 | zero =>
  intro i env G hi h h0 h82 h83
  refine li_go hm l30_3.eq_1 ?_
  have e:i=g.ns.length:=by omega
  subst e
  simp -implicitDefEqProofs[h82,h83]
  exact hexit _ _ (by simp[h0]) h
 | succ m ih =>
  intro i env G hi h h0 h82 h83
  refine li_go hm l30_3.eq_1 ?_
  have hii:i<g.ns.length:=by omega
  have hx:g.ns[i]? = some g.ns[i]:=List.getElem?_eq_getElem hii
  have w1:=wrap_suc (show i<9223372036854775807 by omega)
  simp -implicitDefEqProofs[h0,h82,h83,hii]
  refine call_goP (ok51 hW hc h hii) fun out G' hP => ?_
  obtain⟨rfl,h2⟩:=hP
  simp -implicitDefEqProofs[h0,h82,h83]
  have e1:∀ own X,desL g own s.S c.M X (i+1)=chsR g own s.S c.M (desL g own s.S c.M X i) i g.ns[i].nx.length:=fun own X=>by simp only[desL,hx]
  refine ih (i+1) _ _ (by omega) (by rw[e1,e1]; exact h2) ?_ ?_ ?_
  · simp
  · simp
  · simp[w1]
set_option maxRecDepth 10000 in
theorem tlp30_4 (hW:Wg g) {A:Nat->List Int} {N:Nat} {K:XE->Env->List AO->Prop}
 (hexit:∀ env G,env.get 0=.ptr (.own (pW H g) 0 0 0 0) 0->TW g H c { s with A:=lrnL g s.V s.R A g.ns.length } G->K (.exit 8) env G) :
 ∀ (m i:Nat) (env:Env) (G:List AO),i+m=g.ns.length->TW g H c { s with A:=lrnL g s.V s.R A i } G->env.get 0=.ptr (.own (pW H g) 0 0 0 0) 0->env.get 95=i64 g.ns.length->env.get 96=i64 i->LI Try.prog N drawB l30_4 env G K:=by
 have hn:=hW.gd.n
 intro m
 induction m with
 | zero =>
  intro i env G hi h h0 h95 h96
  refine li_go hm l30_4.eq_1 ?_
  have e:i=g.ns.length:=by omega
  subst e
  simp -implicitDefEqProofs[h95,h96]
  exact hexit _ _ (by simp[h0]) h
 | succ m ih =>
  intro i env G hi h h0 h95 h96
  refine li_go hm l30_4.eq_1 ?_
  have hii:i<g.ns.length:=by omega
  have w1:=wrap_suc (show i<9223372036854775807 by omega)
  simp -implicitDefEqProofs[h0,h95,h96,hii]
  refine call_goP (ok52 hW h hii) fun out G' hP => ?_
  obtain⟨rfl,h2⟩:=hP
  simp -implicitDefEqProofs[h0,h95,h96]
  refine ih (i+1) _ _ (by omega) h2 ?_ ?_ ?_
  · simp
  · simp
  · simp[w1]
end
end Go.Proofs.Ytogjmpkehjfecaa.Rc
namespace Go.Proofs.Ytogjmpkehjfecaa.Rc
open Go.Ab Go.Ab.Shr
def plyD (own share:Int):Int:=IntKind.i64.wrap ((IntKind.i64.wrap (own*share)).tdiv 65536)
def plyF (own:Int) (P S:List Int) (a:Nat):Int:=IntKind.i64.wrap (P.getD a 0+plyD own (S.getD a 0))
def ownI (g:Gm) (F O:List Int) (i:Nat):Int:=O.getD ((F.getD i 0).toNat*4+(g.is.getD i (0,0)).1.toNat) 0
def plyL (g:Gm) (F O:List Int) (S P:Nat->List Int):Nat->Nat->List Int
 | 0=>P
 | i+1=>upA (plyL g F O S P i) i (rowF (g.acts i) (plyF (ownI g F O i) (P i) (S i)))
theorem plyL_at (g:Gm) (F O:List Int) (S P:Nat->List Int) (j:Nat):∀ i,plyL g F O S P i j=if j<i then rowF (g.acts j) (plyF (ownI g F O j) (P j) (S j))else P j
 | 0=>by simp[plyL]
 | i+1=>by
  simp only[plyL,upA]
  by_cases e:j=i
  · subst e; simp
  · rw[if_neg e,plyL_at g F O S P j i]
    by_cases h:j<i
    · rw[if_pos h,if_pos (by omega)]
    · rw[if_neg h,if_neg (by omega)]
theorem is_of {g:Gm} (hW:Wg g) {i:Nat} (hi:i<g.is.length):0≤g.is[i].1∧g.is[i].1<g.pl:=by
 obtain⟨t,ht,_,h2,h3,_⟩:=fn_of hW hi
 have h4:=hW.ty (List.getElem_mem ht) h2
 obtain⟨p1,p2⟩:=mp_of hW ht h2
 rw[h3,List.getElem?_eq_getElem hi]at h4
 cases hh:g.is[i]with
 | mk a b=>rw[hh]at h4; cases h4; exact⟨p1,p2⟩
section
variable {g:Gm} {H G:List AO} {c:TC} {s:TS}
set_option maxRecDepth 10000 in
theorem tlp30_6 (hW:Wg g) {i:Nat} (hi:i<g.is.length) {own:Int} {P:Nat->List Int} (hP:(P i).length=g.acts i) {x106 x107:SV} {N:Nat} {K:XE->Env->List AO->Prop}
 (hexit:∀ env G',TW g H c { s with P:=upA P i (rowF (g.acts i) (plyF own (P i) (s.S i))) } G'->env.get 0=.ptr (.own (pW H g) 0 0 0 0) 0->env.get 106=x106->env.get 107=x107->env.get 108=i64 i->K (.exit 12) env G') :
 ∀ (m a:Nat) (env:Env) (G:List AO),a+m=g.acts i->TW g H c { s with P:=upA P i (rowF (g.acts i) (mixF a (plyF own (P i) (s.S i)) fun a=>(P i).getD a 0)) } G →
  env.get 0=.ptr (.own (pW H g) 0 0 0 0) 0->env.get 8=i64 i->env.get 10=i64 own->env.get 106=x106->env.get 107=x107->env.get 108=i64 i->env.get 136=.own (pS H g i) 0 (g.acts i) 1 0->env.get 137=i64 (g.acts i)->env.get 138=i64 a →
  LI Try.prog N drawB l30_6 env G K:=by
 have hac:=acts_le hW hi
 intro m
 induction m with
 | zero =>
  intro a env G ha h h0 h8 h10 h106 h107 h108 h136 h137 h138
  refine li_go hm l30_6.eq_1 ?_
  have e:a=g.acts i:=by omega
  subst e
  simp -implicitDefEqProofs[h137,h138]
  have e2:rowF (g.acts i) (mixF (g.acts i) (plyF own (P i) (s.S i)) fun a=>(P i).getD a 0)=rowF (g.acts i) (plyF own (P i) (s.S i)):=by
   unfold rowF
   apply List.map_congr_left
   intro x hx
   simp only[List.mem_range]at hx
   simp only[mixF,if_pos hx]
  rw[e2]at h
  exact hexit _ _ h (by simp[h0]) (by simp[h106]) (by simp[h107]) (by simp[h108])
 | succ m ih =>
  intro a env G ha h h0 h8 h10 h106 h107 h108 h136 h137 h138
  refine li_go hm l30_6.eq_1 ?_
  have hal:a<g.acts i:=by omega
  have hw:=h.cw0
  have hS:=oc0 (h.ss _ hi)
  have hPr:=oc0 (h.p _ hi)
  have hpo:=oc0 h.po
  have hst:=setObj_some (h.p _ hi)
  have lS:=h.l.S _ hi
  have eP:=mix_put a (plyF own (P i) (s.S i)) fun a=>(P i).getD a 0
  have eM:=mix_at a (plyF own (P i) (s.S i)) fun a=>(P i).getD a 0
  have hP2:=h.setP hi (X:=rowF (g.acts i) (mixF (a+1) (plyF own (P i) (s.S i)) fun a=>(P i).getD a 0)) (by simp)
  have w1:=wrap_suc (show a<9223372036854775807 by omega)
  simp only[upA_self]at hPr hst
  simp only[upA_up]at hP2
  simp only at lS hS
  have bS:a<(s.S i).length:=by omega
  have ih2:=fun(env:Env) (G:List AO)=>ih (a+1) env G (by omega)
  have eD:plyF own (P i) (s.S i) a=IntKind.i64.wrap ((P i).getD a 0+IntKind.i64.wrap ((IntKind.i64.wrap (own*(s.S i)[a])).tdiv 65536)):=by simp[plyF,plyD,bS]
  rw[←eP]at hP2 ih2
  rw[eD]at hP2 ih2
  generalize mixF a (plyF own (P i) (s.S i)) (fun a=>(P i).getD a 0)=F at *
  have e3:∀ y:Int,List.take a (ints (rowF (g.acts i) F))++i64 y::List.drop (a+1) (ints (rowF (g.acts i) F))=ints (rowF (g.acts i) (put F a y)):=fun y=>by rw[ints_set (by simpa using hal),rowF_set]
  have e4:(ints (rowF (g.acts i) F))[a]?.getD .any=i64 (F a):=by rw[ints_at (by simpa using hal),rowF_getD hal]
  rw[←eM]at hP2 ih2
  simp -implicitDefEqProofs[h0,h8,h10,h106,h107,h108,h136,h137,h138,hal,hw,hS,hPr,hpo,wHead,outs_get hi,hi,bS,hst,e3,e4,rowF_get hal]
  repeat (refine⟨by omega,?_⟩)
  refine ih2 _ _ hP2 ?_ ?_ ?_ ?_ ?_ ?_ ?_ ?_ ?_
  · simp
  · simp
  · simp
  · simp[h106]
  · simp[h107]
  · simp[h108]
  · simp
  · simp
  · simp[w1]
set_option maxRecDepth 10000 in
theorem tlp30_5 (hW:Wg g) (hc:c.Ok g) {P:Nat->List Int} (hP:∀ i,i<g.is.length->(P i).length=g.acts i) {N:Nat} {K:XE->Env->List AO->Prop}
 (hexit:∀ env G,env.get 0=.ptr (.own (pW H g) 0 0 0 0) 0->TW g H c { s with P:=plyL g c.F s.O s.S P g.is.length } G->K (.exit 10) env G) :
 ∀ (m i:Nat) (env:Env) (G:List AO),i+m=g.is.length->TW g H c { s with P:=plyL g c.F s.O s.S P i } G->env.get 0=.ptr (.own (pW H g) 0 0 0 0) 0->env.get 106=.own (pSo H g) 0 g.is.length 1 0->env.get 107=i64 g.is.length->env.get 108=i64 i →
  LI Try.prog N drawB l30_5 env G K:=by
 have hil:=hW.gd.i
 have hn:=hW.gd.n
 have hp4:=hW.gd.p4
 intro m
 induction m with
 | zero =>
  intro i env G hi h h0 h106 h107 h108
  refine li_go hm l30_5.eq_1 ?_
  have e:i=g.is.length:=by omega
  subst e
  simp -implicitDefEqProofs[h107,h108]
  exact hexit _ _ (by simp[h0]) h
 | succ m ih =>
  intro i env G hi h h0 h106 h107 h108
  refine li_go hm l30_5.eq_1 ?_
  have hii:i<g.is.length:=by omega
  have hac:=acts_le hW hii
  have hw:=h.cw0
  have hso:=oc0 h.so
  have ho:=oc0 h.o
  have hf:=oc0 h.f
  have lO:=h.l.O
  have lF:=h.l.F
  obtain⟨f1,f2⟩:=hc.f i hii
  obtain⟨q1,q2⟩:=is_of hW hii
  have bF:i<c.F.length:=by omega
  have gF:c.F.getD i 0=c.F[i]:=by simp[bF]
  rw[gF]at f1 f2
  simp only at lO ho
  have bO:c.F[i].toNat*4+g.is[i].1.toNat<s.O.length:=by omega
  have eO:ownI g c.F s.O i=s.O[c.F[i].toNat*4+g.is[i].1.toNat]:=by
   have e1:g.is.getD i (0,0)=g.is[i]:=by simp[hii]
   unfold ownI
   rw[gF,e1]
   simp[bO]
  have w1:=wrap_suc (show i<9223372036854775807 by omega)
  have hPi:plyL g c.F s.O s.S P i i=P i:=by rw[plyL_at]; simp
  have hst:TW g H c { s with P:=upA (plyL g c.F s.O s.S P i) i (rowF (g.acts i) (mixF 0 (plyF (ownI g c.F s.O i) (plyL g c.F s.O s.S P i i) (s.S i)) fun a=>(plyL g c.F s.O s.S P i i).getD a 0)) } G:=by
   rw[mix_0,hPi,<- hP i hii,rowF_self,<- hPi,upA_id]; exact h
  simp -implicitDefEqProofs[h0,h106,h107,h108,hii,hw,hso,ho,hf,wHead,outs_get hii,infs_at hii,infs_min hii,infs_ge hii,bF,bO]
  repeat (refine⟨by omega,?_⟩)
  rw[←eO]
  refine tlp30_6 (s:=s) (P:=plyL g c.F s.O s.S P i) hW hii (by rw[hPi]; exact hP i hii) (x106:=.own (pSo H g) 0 g.is.length 1 0) (x107:=i64 g.is.length) (fun env G' hG' g0 g106 g107 g108 => ?_) (g.acts i) 0 _ _ (by omega) hst (by simp) (by simp) (by simp) (by simp) (by simp) (by simp) (by simp) (by simp) (by simp)
  simp -implicitDefEqProofs[g0,g106,g107,g108]
  rw[hPi]at hG'
  refine ih (i+1) _ _ (by omega) hG' ?_ ?_ ?_ ?_
  · simp[g0]
  · simp[g106]
  · simp[g107]
  · simp[w1]
theorem TW.setN (h:TW g H c s G) (n:Int):TW g H c { s with rnd:=n } (G.set (pW H g) (wObj g H { s with rnd:=n })):=by
 have hlt:=h.ltw
 have ne:∀ {k:Nat} {x:Option AO},pW H g≠k->G[k]? = x->(G.set (pW H g) (wObj g H { s with rnd:=n }))[k]? = x:=fun hn hx=>by rw[List.getElem?_set_ne hn]; exact hx
 constructor
 case l=>exact⟨h.l.A,h.l.P,h.l.S,h.l.V,h.l.R,h.l.O,h.l.ord,h.l.M,h.l.F⟩
 case len=>simpa using h.len
 case cl =>
  refine closed_set h.cl _ ?_
  have:=h.len
  simp only[wObj,oI,SV.underL_append,wHead,Bool.and_eq_true]
  unfold pE at this
  unfold pM pF pAo pPo pSo pV pR pO
  refine⟨?_,by simp⟩
  simp[nds_under,infs_under]
  omega
 case w=>rw[List.getElem?_set_self hlt]
 case ss=>intro i hi; exact ne (by unfold pW pS; omega) (h.ss i hi)
 case a=>intro i hi; exact ne (by unfold pW pA; omega) (h.a i hi)
 case low=>intro i hi; exact ne (by unfold pW; omega) (h.low i hi)
 case p=>intro i hi; exact ne (by unfold pW pP; omega) (h.p i hi)
 case m=>exact ne (by unfold pW pM; omega) h.m
 case f=>exact ne (by unfold pW pF; omega) h.f
 case ao=>exact ne (by unfold pW pAo; omega) h.ao
 case po=>exact ne (by unfold pW pPo; omega) h.po
 case so=>exact ne (by unfold pW pSo; omega) h.so
 case v=>exact ne (by unfold pW pV; omega) h.v
 case r=>exact ne (by unfold pW pR; omega) h.r
 case o=>exact ne (by unfold pW pO; omega) h.o
def rndT (g:Gm) (c:TC) (s:TS):TS :=
 let s1:=shL s g.is.length
 let s2:TS:={ s1 with V:=valL g c.M s1.S s1.V g.ns.length }
 let s3:TS:={ s2 with R:=blk4 s2.R 0 (mixF g.pl.toNat (fun _=>1073741824) (rowQ s2.R 0)),O:=blk4 s2.O 0 (mixF g.pl.toNat (fun _=>1073741824) (rowQ s2.O 0)) }
 let s4:TS:={ s3 with R:=desL g false s3.S c.M s3.R g.ns.length,O:=desL g true s3.S c.M s3.O g.ns.length }
 let s5:TS:={ s4 with A:=lrnL g s4.V s4.R s4.A g.ns.length }
 let s6:TS:={ s5 with P:=plyL g c.F s5.O s5.S s5.P g.is.length }
 { s6 with rnd:=IntKind.i64.wrap (s6.rnd+1) }
set_option maxRecDepth 10000 in
theorem ok30 (hW:Wg g) (hc:c.Ok g) (h:TW g H c s G) (hk:okTS g s) :
 OkP Try.prog 30 [.ptr (.own (pW H g) 0 0 0 0) 0] G fun out G'=>TW g H c (rndT g c s) G'∧((okTS g (rndT g c s)∧out=.ret (.tup []))∨(¬ okTS g (rndT g c s)∧out=.pan panV)):=by
 have hlt:=h.ltw
 have hw:=h.cw0
 have hn:=hW.gd.n
 have hn1:=hW.gd.n1
 have hp1:=hW.gd.p1
 refine okP_fn hm Try.func30 c30 (by simp[hlt]) fun hcl => ?_
 unfold rndT
 simp -implicitDefEqProofs[i30,r30,hw,wHead]
 refine tlp30_0 (s:=s) hW hk (fun env G1 g0 h1 => ?_) g.is.length 0 _ _ (by omega) h (by simp) (by simp) (by simp) (by simp)
 generalize shL s g.is.length=s1 at *
 have hw1:=h1.cw0
 have w1:IntKind.i64.wrap ((g.ns.length:Int)-1)=(g.ns.length:Int)-1-(0:Nat):=by rw[wrap_id (by omega) (by omega)]; omega
 simp -implicitDefEqProofs[g0,hw1,wHead]
 refine tlp30_1 (s:=s1) (V:=s1.V) hW hc (fun env G2 g0 h2 => ?_) g.ns.length 0 _ _ (by omega) h1 (by simp[g0]) (by simp[w1])
 generalize valL g c.M s1.S s1.V g.ns.length=V1 at *
 have hw2:=h2.cw0
 simp -implicitDefEqProofs[g0,hw2,wHead]
 have h20:TW g H c { s1 with V:=V1,R:=blk4 s1.R 0 (mixF 0 (fun _=>1073741824) (rowQ s1.R 0)),O:=blk4 s1.O 0 (mixF 0 (fun _=>1073741824) (rowQ s1.O 0)) } G2:=by
  rw[mix_0,mix_0]
  have e:∀ X:List Int,X.length=4*g.ns.length->blk4 X 0 (rowQ X 0)=X:=fun X hX=>by
   have e1:rowF 4 (rowQ X 0)=X.take 4:=by
    apply List.ext_getElem?
    intro q
    by_cases hq:q<4
    · rw[List.getElem?_eq_getElem (by simpa using hq),rowF_get hq,List.getElem?_take_of_lt hq,List.getElem?_eq_getElem (by omega)]
      simp[rowQ,show q<X.length by omega]
    · rw[List.getElem?_eq_none (by simp; omega),List.getElem?_eq_none (by simp; omega)]
   unfold blk4
   rw[e1]; simp
  rw[e _ h2.l.R,e _ h2.l.O]
  exact h2
 refine tlp30_2 (s:={ s1 with V:=V1 }) (R:=s1.R) (O:=s1.O) hW h2.l.R h2.l.O (fun env G3 g0 h3 => ?_) g.pl.toNat 0 _ _ (by omega) h20 (by simp[g0]) (by simp) (by simp)
 generalize blk4 s1.R 0 (mixF g.pl.toNat (fun _=>1073741824) (rowQ s1.R 0))=R3 at *
 generalize blk4 s1.O 0 (mixF g.pl.toNat (fun _=>1073741824) (rowQ s1.O 0))=O3 at *
 have hw3:=h3.cw0
 simp -implicitDefEqProofs[g0,hw3,wHead]
 refine tlp30_3 (s:={ s1 with V:=V1 }) (R:=R3) (O:=O3) hW hc (fun env G4 g0 h4 => ?_) g.ns.length 0 _ _ (by omega) h3 (by simp[g0]) (by simp) (by simp)
 simp only at h4
 generalize desL g false s1.S c.M R3 g.ns.length=R4 at *
 generalize desL g true s1.S c.M O3 g.ns.length=O4 at *
 have hw4:=h4.cw0
 simp -implicitDefEqProofs[g0,hw4,wHead]
 refine tlp30_4 (s:={ s1 with V:=V1,R:=R4,O:=O4 }) (A:=s1.A) hW (fun env G5 g0 h5 => ?_) g.ns.length 0 _ _ (by omega) h4 (by simp[g0]) (by simp) (by simp)
 simp only at h5
 generalize lrnL g V1 R4 s1.A g.ns.length=A5 at *
 have hw5:=h5.cw0
 simp -implicitDefEqProofs[g0,hw5,wHead]
 refine tlp30_5 (s:={ s1 with V:=V1,R:=R4,O:=O4,A:=A5 }) (P:=s1.P) hW hc h5.l.P (fun env G6 g0 h6 => ?_) g.is.length 0 _ _ (by omega) h5 (by simp[g0]) (by simp) (by simp) (by simp)
 simp only at h6
 generalize plyL g c.F O4 s1.S s1.P g.is.length=P6 at *
 have hw6:=h6.cw0
 have hst:=setObj_some h6.w
 have h7:=h6.setN (IntKind.i64.wrap (s1.rnd+1))
 simp only[wObj,wHead]at hst
 simp -implicitDefEqProofs[g0,hw6,wHead,hst,oI]
 refine call_goP (OkP.cast rfl (by simp[wObj,oI,wHead]) (ok53 hW h7)) fun out G' hP => ?_
 obtain⟨rfl,hP | hP⟩:=hP
 · obtain⟨hk2,rfl⟩:=hP
   simp -implicitDefEqProofs
   exact⟨_,_,⟨h7,.inl ⟨hk2,rfl⟩⟩,cv_id⟩
 · obtain⟨hk2,rfl⟩:=hP
   simp -implicitDefEqProofs
   exact⟨_,_,⟨h7,.inr ⟨hk2,rfl⟩⟩,cv_id⟩
end
end Go.Proofs.Ytogjmpkehjfecaa.Rc
namespace Go.Proofs.Ytogjmpkehjfecaa.Rc
open Go.Ab Go.Ab.Shr
def rowO (v:Nat) (l:List Int):AO:=⟨ints l,3,v,true⟩
section
variable {H:List AO}
theorem ok49 {l:List Int} (h0:l≠[]) (hl:l.length≤1000000):Ok Try.prog 49 [sl l] H (.ret (.own H.length 0 l.length 1 1)) (H++[rowO 1 l]):=by
 have hl0:l.length≠0:=fun h=>h0 (List.eq_nil_of_length_eq_zero h)
 refine ok_fn hm Try.func49 c49 (by simp[sl]) fun hcl => ?_
 simp -implicitDefEqProofs[i49,r49,sl,hl0]
 exact⟨by omega,by omega,cv_id⟩
def outP (h I i:Nat) (n:Nat->Nat):List SV:=(List.range I).map fun j=>if j<i then .own (h+1+j) 0 (n j) 1 1 else .val (.slice none 0 0)
theorem outP_set {h I i:Nat} {n:Nat->Nat} (hi:i<I):List.take i (outP h I i n)++SV.own (h+1+i) 0 (n i) 1 1::List.drop (i+1) (outP h I i n)=outP h I (i+1) n:=by
 have hl:i<(outP h I i n).length:=by simp[outP,hi]
 have:=List.set_eq_take_append_cons_drop (l:=outP h I i n) (i:=i) (a:=SV.own (h+1+i) 0 (n i) 1 1)
 rw[if_pos hl]at this
 rw[←this]
 apply List.ext_getElem?
 intro j
 by_cases e:i=j
 · subst e; rw[List.getElem?_set_self hl]; simp[outP,hi]
 · rw[List.getElem?_set_ne e]
   by_cases hj:j<I
   · have:(j<i)=(j<i+1):=by simp; omega
     simp[outP,hj,this]
   · rw[List.getElem?_eq_none (by simp[outP]; omega),List.getElem?_eq_none (by simp[outP]; omega)]
@[simp] theorem outP_len {h I i:Nat} {n:Nat->Nat}:(outP h I i n).length=I:=by simp[outP]
def lenL (L:List (List Int)) (i:Nat):Nat:=(L.getD i []).length
theorem lenL_at {L:List (List Int)} {i:Nat} (h:i<L.length):lenL L i=L[i].length:=by simp[lenL,h]
def sls (L:List (List Int)):List SV:=L.map sl
@[simp] theorem sls_len (L:List (List Int)):(sls L).length=L.length:=by simp[sls]
theorem sls_get {L:List (List Int)} {i:Nat} (h:i<L.length):(sls L)[i]'(by simpa using h)=sl L[i]:=by simp[sls]
theorem sls_under (n:Nat) (L:List (List Int)):SV.underL n (sls L)=true:=by
 rw[SV.underL_iff]
 intro x hx
 simp only[sls,List.mem_map]at hx
 obtain⟨l,_,rfl⟩:=hx
 simp[sl]
set_option maxRecDepth 10000 in
theorem tlp29_0 {L:List (List Int)} (hL:∀ l∈L,l≠[]∧l.length≤1000000) (hL2:L.length≤1000000) {N:Nat} {K:XE->Env->List AO->Prop}
 (hexit:∀ env,env.get 3=.own H.length 0 L.length 1 0->K (.exit 0) env (H++⟨outP H.length L.length L.length (lenL L),36,0,true⟩::L.map (rowO 1))) :
 ∀ (m i:Nat) (env:Env),i+m=L.length->env.get 3=.own H.length 0 L.length 1 0->env.get 9=.slc (sls L) L.length->env.get 10=i64 L.length->env.get 11=i64 i →
  LI Try.prog N drawB l29_0 env (H++⟨outP H.length L.length i (lenL L),36,0,true⟩::(L.map (rowO 1)).take i) K:=by
 intro m
 induction m with
 | zero =>
  intro i env hi h3 h9 h10 h11
  refine li_go hm l29_0.eq_1 ?_
  have e:i=L.length:=by omega
  subst e
  have e0:(L.map (rowO 1)).take L.length=L.map (rowO 1):=List.take_of_length_le (by simp)
  rw[e0]
  simp -implicitDefEqProofs[h10,h11]
  exact hexit _ (by simp[h3])
 | succ m ih =>
  intro i env hi h3 h9 h10 h11
  refine li_go hm l29_0.eq_1 ?_
  have hii:i<L.length:=by omega
  obtain⟨n1,n2⟩:=hL _ (List.getElem_mem hii)
  have w1:=wrap_suc (show i<9223372036854775807 by omega)
  have hg:L.getD i []=L[i]:=by simp[hii]
  have es:=outP_set (h:=H.length) (I:=L.length) (n:=lenL L) hii
  rw[lenL_at hii]at es
  have et:(L.map (rowO 1)).take (i+1)=(L.map (rowO 1)).take i++[rowO 1 L[i]]:=by rw[List.take_succ_eq_append_getElem (by simpa using hii)]; simp
  have em:min i L.length=i:=by omega
  have ep:H.length+(i+1)=H.length+1+i:=by omega
  simp -implicitDefEqProofs[h3,h9,h10,h11,hii,sls_get hii]
  refine⟨by omega,call_go (ok49 n1 n2) ?_⟩
  simp -implicitDefEqProofs[h3,h9,h10,h11,hii,em]
  refine⟨by omega,?_⟩
  rw[ep,es,<- et]
  refine ih (i+1) _ (by omega) ?_ ?_ ?_ ?_
  · simp
  · simp
  · simp
  · simp[w1]
theorem outP_all (h I:Nat) (n:Nat->Nat):outP h I I n=outs I (fun i=>h+1+i) n 1:=by
 unfold outP outs
 apply List.map_congr_left
 intro j hj
 simp only[List.mem_range]at hj
 rw[if_pos hj]
set_option maxRecDepth 10000 in
theorem ok29 {L:List (List Int)} (hL:∀ l∈L,l≠[]∧l.length≤1000000) (hL2:L.length≤1000000) :
 Ok Try.prog 29 [.slc (sls L) L.length] H (.ret (.own H.length 0 L.length 1 0)) (H++⟨outs L.length (fun i=>H.length+1+i) (lenL L) 1,36,0,true⟩::L.map (rowO 1)):=by
 refine ok_fn hm Try.func29 c29 (by simp[sls_under]) fun hcl => ?_
 simp -implicitDefEqProofs[i29,r29]
 refine⟨by omega,by omega,?_⟩
 have e:List.replicate L.length (SV.val (.slice none 0 0))=outP H.length L.length 0 (lenL L):=by simp[outP,List.map_const']
 rw[e]
 refine tlp29_0 hL hL2 (fun env g3 => ?_) L.length 0 _ (by omega) (by simp) (by simp) (by simp) (by simp)
 simp -implicitDefEqProofs[g3]
 rw[outP_all]
 exact cv_id
end
end Go.Proofs.Ytogjmpkehjfecaa.Rc
namespace Go.Proofs.Ytogjmpkehjfecaa.Rc
open Go.Ab Go.Ab.Shr
def outQ (p:Nat->Nat) (n:Nat->Nat) (ver I i:Nat):List SV:=(List.range I).map fun j=>if j<i then .own (p j) 0 (n j) 1 ver else .val (.slice none 0 0)
@[simp] theorem outQ_len {p n:Nat->Nat} {ver I i:Nat}:(outQ p n ver I i).length=I:=by simp[outQ]
theorem outQ_set {p n:Nat->Nat} {ver I i:Nat} (hi:i<I):List.take i (outQ p n ver I i)++SV.own (p i) 0 (n i) 1 ver::List.drop (i+1) (outQ p n ver I i)=outQ p n ver I (i+1):=by
 have hl:i<(outQ p n ver I i).length:=by simp[hi]
 have:=List.set_eq_take_append_cons_drop (l:=outQ p n ver I i) (i:=i) (a:=SV.own (p i) 0 (n i) 1 ver)
 rw[if_pos hl]at this
 rw[←this]
 apply List.ext_getElem?
 intro j
 by_cases e:i=j
 · subst e; rw[List.getElem?_set_self hl]; simp[outQ,hi]
 · rw[List.getElem?_set_ne e]
   by_cases hj:j<I
   · have:(j<i)=(j<i+1):=by simp; omega
     simp[outQ,hj,this]
   · rw[List.getElem?_eq_none (by simp; omega),List.getElem?_eq_none (by simp; omega)]
theorem outQ_0 (p n:Nat->Nat) (ver I:Nat):outQ p n ver I 0=List.replicate I (.val (.slice none 0 0)):=by simp[outQ,List.map_const']
theorem outQ_all (p n:Nat->Nat) (ver I:Nat):outQ p n ver I I=outs I p n ver:=by
 unfold outQ outs
 apply List.map_congr_left
 intro j hj
 simp only[List.mem_range]at hj
 rw[if_pos hj]
def zers (n:Nat):List Int:=List.replicate n 0
@[simp] theorem zers_len (n:Nat):(zers n).length=n:=by simp[zers]
def blkO (g:Gm):Nat->List AO
 | 0=>[]
 | k+1=>blkO g k++[⟨[i64 (g.is.getD k (0,0)).1,i64 (g.is.getD k (0,0)).2],45,0,true⟩,rowO 0 (zers (g.acts k))]
theorem blkO_len (g:Gm):∀ k,(blkO g k).length=2*k
 | 0=>rfl
 | k+1=>by simp[blkO,blkO_len g k]; omega
section
variable {H:List AO} {g:Gm}
def pB (h i:Nat):Nat:=h+3+2*i
set_option maxRecDepth 10000 in
theorem tlp37_0 (hW:Wg g) {N:Nat} {K:XE->Env->List AO->Prop}
 (hexit:∀ env,env.get 3=.own (H.length+1) 0 g.is.length 1 0->K (.exit 0) env (H++gbox g::⟨outQ (pB H.length) g.acts 0 g.is.length g.is.length,36,0,true⟩::blkO g g.is.length)) :
 ∀ (m i:Nat) (env:Env),i+m=g.is.length->env.get 3=.own (H.length+1) 0 g.is.length 1 0->env.get 11=.slc (infs g.is) g.is.length->env.get 12=i64 g.is.length->env.get 13=i64 i →
  LI Try.prog N drawB l37_0 env (H++gbox g::⟨outQ (pB H.length) g.acts 0 g.is.length i,36,0,true⟩::blkO g i) K:=by
 have hil:=hW.gd.i
 intro m
 induction m with
 | zero =>
  intro i env hi h3 h11 h12 h13
  refine li_go hm l37_0.eq_1 ?_
  have e:i=g.is.length:=by omega
  subst e
  simp -implicitDefEqProofs[h12,h13]
  exact hexit _ (by simp[h3])
 | succ m ih =>
  intro i env hi h3 h11 h12 h13
  refine li_go hm l37_0.eq_1 ?_
  have hii:i<g.is.length:=by omega
  obtain⟨n1,n2⟩:=acts_le hW hii
  have hg:g.is.getD i (0,0)=g.is[i]:=by simp[hii]
  have ha:(g.acts i:Int)=g.is[i].2:=by unfold Gm.acts; rw[hg]; unfold Gm.acts at n1; rw[hg]at n1; omega
  have w1:=wrap_suc (show i<9223372036854775807 by omega)
  have es:=outQ_set (p:=pB H.length) (n:=g.acts) (ver:=0) (I:=g.is.length) hii
  have eb:blkO g (i+1)=blkO g i++[⟨[i64 g.is[i].1,i64 g.is[i].2],45,0,true⟩,rowO 0 (zers (g.acts i))]:=by simp only[blkO,hg]
  have hMl:=blkO_len g i
  rw[←ha]at eb
  have ih2:=ih (i+1)
  rw[eb]at ih2
  generalize blkO g i=M at *
  simp -implicitDefEqProofs[h3,h11,h12,h13,hii,infs_at hii,infs_min hii,infs_ge hii,<- ha]
  repeat (refine⟨by omega,?_⟩)
  have e1:H.length+(M.length+3)=pB H.length i:=by unfold pB; omega
  have e2:List.replicate (g.acts i) (i64 0)=ints (zers (g.acts i)):=by simp[ints,zers]
  rw[e1,es,e2]
  refine ih2 _ (by omega) ?_ ?_ ?_ ?_
  · simp
  · simp
  · simp
  · simp[w1]
theorem ok37 (hW:Wg g):Ok Try.prog 37 [.agg g.cells] H (.ret (.own (H.length+1) 0 g.is.length 1 0)) (H++gbox g::⟨outs g.is.length (pB H.length) g.acts 0,36,0,true⟩::blkO g g.is.length):=by
 have hil:=hW.gd.i
 refine ok_fn hm Try.func37 c37 (by simp[Gm.cells,nds_under,infs_under]) fun hcl => ?_
 simp -implicitDefEqProofs[i37,r37,Gm.cells]
 refine⟨by omega,by omega,?_⟩
 rw[←outQ_0 (pB H.length) g.acts 0]
 refine tlp37_0 hW (fun env g3 => ?_) g.is.length 0 _ (by omega) (by simp) (by simp) (by simp) (by simp)
 simp -implicitDefEqProofs[g3]
 rw[outQ_all]
 exact cv_id
end
end Go.Proofs.Ytogjmpkehjfecaa.Rc
namespace Go.Proofs.Ytogjmpkehjfecaa.Rc
open Go.Ab Go.Ab.Shr
@[simp ↓] theorem rs_calln (n:Nat) (f:Od) (l:List Od):(E.calln f l).rs n=.calln f l:=rfl
@[simp ↓] theorem rs_stw (n:Nat) (ws:List Nat) (k:Nat) (p x:Od):(E.stw ws k p x).rs n=.stw ws k p x:=rfl
end Go.Proofs.Ytogjmpkehjfecaa.Rc
namespace Go.Proofs.Ytogjmpkehjfecaa.Rc
open Go.Ab Go.Ab.Shr
section
variable {g:Gm} {H G:List AO} {c:TC} {s:TS}
theorem TW.setM (h:TW g H c s G) {X:List Int} (hV:X.length=g.ns.length):TW g H { c with M:=X } s (G.set (pM H g) ⟨ints X,3,1,true⟩):=by
 have hlt:=getElem?_lt h.m
 have ne:∀ {j:Nat} {x:Option AO},pM H g≠j->G[j]? = x->(G.set (pM H g) ⟨ints X,3,1,true⟩)[j]? = x:=fun hn hx=>by rw[List.getElem?_set_ne hn]; exact hx
 constructor
 case l=>exact⟨h.l.A,h.l.P,h.l.S,h.l.V,h.l.R,h.l.O,h.l.ord,hV,h.l.F⟩
 case len=>simpa using h.len
 case cl=>exact closed_set h.cl _ (by simp)
 case m=>rw[List.getElem?_set_self hlt]
 case low=>intro i hi; exact ne (by unfold pM; omega) (h.low i hi)
 case a=>intro i hi; exact ne (by unfold pM pA; omega) (h.a i hi)
 case p=>intro i hi; exact ne (by unfold pM pP; omega) (h.p i hi)
 case ss=>intro i hi; exact ne (by unfold pM pS; omega) (h.ss i hi)
 case w=>exact ne (by unfold pM pW; omega) h.w
 case v=>exact ne (by unfold pM pV; omega) h.v
 case f=>exact ne (by unfold pM pF; omega) h.f
 case ao=>exact ne (by unfold pM pAo; omega) h.ao
 case po=>exact ne (by unfold pM pPo; omega) h.po
 case so=>exact ne (by unfold pM pSo; omega) h.so
 case r=>exact ne (by unfold pM pR; omega) h.r
 case o=>exact ne (by unfold pM pO; omega) h.o
theorem TW.setF (h:TW g H c s G) {X:List Int} (hV:X.length=g.is.length):TW g H { c with F:=X } s (G.set (pF H g) ⟨ints X,3,1,true⟩):=by
 have hlt:=getElem?_lt h.f
 have ne:∀ {j:Nat} {x:Option AO},pF H g≠j->G[j]? = x->(G.set (pF H g) ⟨ints X,3,1,true⟩)[j]? = x:=fun hn hx=>by rw[List.getElem?_set_ne hn]; exact hx
 constructor
 case l=>exact⟨h.l.A,h.l.P,h.l.S,h.l.V,h.l.R,h.l.O,h.l.ord,h.l.M,hV⟩
 case len=>simpa using h.len
 case cl=>exact closed_set h.cl _ (by simp)
 case f=>rw[List.getElem?_set_self hlt]
 case low=>intro i hi; exact ne (by unfold pF; omega) (h.low i hi)
 case a=>intro i hi; exact ne (by unfold pF pA; omega) (h.a i hi)
 case p=>intro i hi; exact ne (by unfold pF pP; omega) (h.p i hi)
 case ss=>intro i hi; exact ne (by unfold pF pS; omega) (h.ss i hi)
 case w=>exact ne (by unfold pF pW; omega) h.w
 case m=>exact ne (by unfold pF pM; omega) h.m
 case v=>exact ne (by unfold pF pV; omega) h.v
 case ao=>exact ne (by unfold pF pAo; omega) h.ao
 case po=>exact ne (by unfold pF pPo; omega) h.po
 case so=>exact ne (by unfold pF pSo; omega) h.so
 case r=>exact ne (by unfold pF pR; omega) h.r
 case o=>exact ne (by unfold pF pO; omega) h.o
end
def wsK (ws:List Int):Nat->Int
 | 0=>0
 | k+1=>IntKind.i64.wrap (wsK ws k+ws.getD k 0)
def wsum (ws:List Int):Int:=wsK ws ws.length
theorem wsK_rng {ws:List Int} (h:∀ w∈ws,1≤w∧w≤1000) (hl:ws.length≤60):∀ k,k≤ws.length->(k:Int)≤wsK ws k∧wsK ws k≤1000*k
 | 0,_=>by simp[wsK]
 | k+1,hk=>by
  have h1:=wsK_rng h hl k (by omega)
  have h2:=h _ (List.getElem_mem (show k<ws.length by omega))
  have h3:ws.getD k 0=ws[k]:=by simp[show k<ws.length by omega]
  simp only[wsK,h3]
  rw[wrap_id (by omega) (by omega)]
  omega
def wtF (g:Gm) (i:Nat):Int:=match g.ns[i]? with
 | none=>0
 | some x=>wsum x.ws
def wtM (g:Gm) (j:Nat) (i:Nat):Int:=if j≤i then wtF g i else 0
def fsL (g:Gm):Nat->List Int
 | 0=>zers g.is.length
 | m+1=>match g.ns[g.ns.length-1-m]? with
  | none=>fsL g m
  | some x=>if x.k=2 then(fsL g m).set x.i.toNat ((g.ns.length-1-m:Nat):Int)else fsL g m
@[simp] theorem fsL_len (g:Gm):∀ m,(fsL g m).length=g.is.length
 | 0=>by simp[fsL]
 | m+1=>by
  simp only[fsL]
  split
  · exact fsL_len g m
  · split
    · simp[fsL_len g m]
    · exact fsL_len g m
theorem fsL_at {g:Gm} {i t:Nat} (hi:i<g.is.length) (ht:t<g.ns.length) (h2:g.ns[t].k=2) (h3:g.ns[t].i.toNat=i) (h4:∀ u (hu:u<t),¬ (g.ns[u].k=2∧g.ns[u].i.toNat=i)) :
 ∀ m,m≤g.ns.length->g.ns.length-m≤t->(fsL g m).getD i 0=t
 | 0,hm,hg=>by omega
 | m+1,hm,hg=>by
  have hx:g.ns[g.ns.length-1-m]? = some (g.ns[g.ns.length-1-m]'(by omega)):=List.getElem?_eq_getElem (by omega)
  simp only[fsL,hx]
  by_cases e:g.ns.length-1-m=t
  · subst e
    rw[if_pos h2,h3]
    simp[hi]
  · have ih:=fsL_at hi ht h2 h3 h4 m (by omega)
    by_cases e2:g.ns.length-m≤t
    · split
      · rename_i hk
        have hne:¬ (g.ns[g.ns.length-1-m]'(by omega)).i.toNat=i:=fun hh=>h4 (g.ns.length-1-m) (by omega) ⟨hk,hh⟩
        have:=ih e2
        simp only[List.getD_eq_getElem?_getD]at this ⊢
        rw[List.getElem?_set_ne hne]; exact this
      · exact ih e2
    · omega
def cTC (g:Gm):TC:=⟨rowF g.ns.length (wtF g),fsL g g.ns.length⟩
theorem cTC_ok {g:Gm} (hW:Wg g):(cTC g).Ok g where
 m:=fun i hi hk=>by
  obtain⟨a1,a2,a3,a4⟩:=ch_of hW hi hk
  have hx:g.ns[i]? = some g.ns[i]:=List.getElem?_eq_getElem hi
  simp only[cTC]
  rw[rowF_getD hi]
  simp only[wtF,hx,wsum]
  have:=wsK_rng a4 (by omega) g.ns[i].ws.length (Nat.le_refl _)
  omega
 f:=fun i hi=>by
  obtain⟨t,ht,_,h2,h3,h4⟩:=fn_of hW hi
  have:=fsL_at hi ht h2 h3 h4 g.ns.length (Nat.le_refl _) (by omega)
  simp only[cTC]
  rw[this]; omega
end Go.Proofs.Ytogjmpkehjfecaa.Rc
namespace Go.Proofs.Ytogjmpkehjfecaa.Rc
open Go.Ab Go.Ab.Shr
def pGb (H:List AO) (g:Gm):Nat:=H.length+2+2*g.is.length
theorem put_put (f:Nat->Int) (i:Nat) (x y:Int):put (put f i x) i y=put f i y:=by funext k; unfold put; split<;>rfl
theorem put_self (f:Nat->Int) (i:Nat):put f i (f i)=f:=by funext k; unfold put; split; rename_i e; rw[e]; rfl
theorem wtM_put (g:Gm) (i:Nat):put (wtM g (i+1)) i (wtF g i)=wtM g i:=by
 funext k
 unfold put wtM
 by_cases e:k=i
 · subst e; simp
 · rw[if_neg e]
   by_cases h:i≤k
   · rw[if_pos h,if_pos (by omega)]
   · rw[if_neg h,if_neg (by omega)]
section
variable {g:Gm} {H G:List AO} {c:TC} {s:TS}
theorem gb_keep (h:TW g H c s G) (hb:G[pGb H g]? = some (gbox g)) {p:Nat} (hp:p≠pGb H g) (o:AO):(G.set p o)[pGb H g]? = some (gbox g):=by rw[List.getElem?_set_ne hp]; exact hb
set_option maxRecDepth 10000 in
theorem tlp28_1 (hW:Wg g) {i:Nat} (hi:i<g.ns.length) {f:Nat->Int} {F:List Int} {N:Nat} {K:XE->Env->List AO->Prop}
 (hexit:∀ env G,env.get 2=.ptr (.own (pGb H g) 0 0 0 0) 0->env.get 6=.ptr (.own (pW H g) 0 0 0 0) 0->env.get 7=i64 i->TW g H ⟨rowF g.ns.length (put f i (wsum g.ns[i].ws)),F⟩ s G->G[pGb H g]? = some (gbox g)->K (.exit 2) env G) :
 ∀ (m k:Nat) (env:Env) (G:List AO),k+m=g.ns[i].ws.length->TW g H ⟨rowF g.ns.length (put f i (wsK g.ns[i].ws k)),F⟩ s G->G[pGb H g]? = some (gbox g) →
  env.get 2=.ptr (.own (pGb H g) 0 0 0 0) 0->env.get 6=.ptr (.own (pW H g) 0 0 0 0) 0->env.get 7=i64 i->env.get 51=.slc (ints g.ns[i].ws) g.ns[i].ws.length->env.get 52=i64 g.ns[i].ws.length->env.get 53=i64 k->g.ns[i].ws.length≤60 →
  LI Try.prog N drawB l28_1 env G K:=by
 intro m
 induction m with
 | zero =>
  intro k env G hk h hb h2 h6 h7 h51 h52 h53 hl
  refine li_go hm l28_1.eq_1 ?_
  have e:k=g.ns[i].ws.length:=by omega
  subst e
  simp -implicitDefEqProofs[h52,h53]
  exact hexit _ _ (by simp[h2]) (by simp[h6]) (by simp[h7]) h hb
 | succ m ih =>
  intro k env G hk h hb h2 h6 h7 h51 h52 h53 hl
  refine li_go hm l28_1.eq_1 ?_
  have hkl:k<g.ns[i].ws.length:=by omega
  have hw:=h.cw0
  have hM:=oc0 h.m
  have hst:=setObj_some h.m
  have w1:=wrap_suc (show k<9223372036854775807 by omega)
  have eK:wsK g.ns[i].ws (k+1)=IntKind.i64.wrap (wsK g.ns[i].ws k+g.ns[i].ws[k]):=by simp[wsK,hkl]
  have h5:=h.setM (X:=rowF g.ns.length (put f i (wsK g.ns[i].ws (k+1)))) (by simp)
  have hb5:=gb_keep h hb (p:=pM H g) (by unfold pM pGb; omega) ⟨ints (rowF g.ns.length (put f i (wsK g.ns[i].ws (k+1)))),3,1,true⟩
  have ea:(put f i (wsK g.ns[i].ws k)) i=wsK g.ns[i].ws k:=by simp[put]
  have e4:(ints (rowF g.ns.length (put f i (wsK g.ns[i].ws k))))[i]?.getD .any=i64 (wsK g.ns[i].ws k):=by rw[ints_at (by simpa using hi),rowF_getD hi,ea]
  have e3:∀ y:Int,List.take i (ints (rowF g.ns.length (put f i (wsK g.ns[i].ws k))))++i64 y::List.drop (i+1) (ints (rowF g.ns.length (put f i (wsK g.ns[i].ws k))))=ints (rowF g.ns.length (put f i y)):=fun y=>by rw[ints_set (by simpa using hi),rowF_set,put_put]
  have e5:(rowF g.ns.length (put f i (wsK g.ns[i].ws k)))[i]'(by simpa using hi)=wsK g.ns[i].ws k:=by rw[rowF_get hi,ea]
  rw[eK]at h5 hb5
  simp -implicitDefEqProofs[h2,h6,h7,h51,h52,h53,hkl,hw,wHead,hM,hi,hst,e3,e4,e5]
  repeat (refine⟨by omega,?_⟩)
  refine ih (k+1) _ _ (by omega) (by rw[eK]; exact h5) hb5 ?_ ?_ ?_ ?_ ?_ ?_ hl
  · simp[h2]
  · simp
  · simp
  · simp
  · simp
  · simp[w1]
set_option maxRecDepth 10000 in
theorem tlp28_0 (hW:Wg g) {N:Nat} {K:XE->Env->List AO->Prop}
 (hexit:∀ env G,env.get 6=.ptr (.own (pW H g) 0 0 0 0) 0->TW g H (cTC g) s G->K (.exit 0) env G) :
 ∀ (m:Nat) (env:Env) (G:List AO),m≤g.ns.length->TW g H ⟨rowF g.ns.length (wtM g m),fsL g (g.ns.length-m)⟩ s G->G[pGb H g]? = some (gbox g) →
  env.get 2=.ptr (.own (pGb H g) 0 0 0 0) 0->env.get 6=.ptr (.own (pW H g) 0 0 0 0) 0->env.get 7=i64 ((m:Int)-1) →
  LI Try.prog N drawB l28_0 env G K:=by
 have hn:=hW.gd.n
 intro m
 induction m with
 | zero =>
  intro env G hm' h hb h2 h6 h7
  refine li_go hm l28_0.eq_1 ?_
  have e:((0:Nat):Int)-1 = -1:=by omega
  rw[e]at h7
  simp -implicitDefEqProofs[h7]
  refine hexit _ _ (by simp[h6]) ?_
  have e2:wtM g 0=wtF g:=by funext k; simp[wtM]
  rw[e2,Nat.sub_zero]at h
  exact h
 | succ i ih =>
  intro env G hm' h hb h2 h6 h7
  refine li_go hm l28_0.eq_1 ?_
  have hi:i<g.ns.length:=by omega
  have hx:g.ns[i]? = some g.ns[i]:=List.getElem?_eq_getElem hi
  have e:((i+1:Nat):Int)-1=(i:Int):=by omega
  rw[e]at h7
  have hgb:objCells G (pGb H g) 0=[i64 g.pl,.slc (nds g.ns) g.ns.length,.slc (infs g.is) g.is.length]:=oc0 (T:=25) hb
  have hws:g.ns[i].ws.length≤60:=by
   rcases kd_of hW hi with hk | hk | hk
   · have:=ch_of hW hi hk; omega
   · have h3:=hW.gd.e _ (List.getElem_mem hi)
     unfold Nd.err Nd.move at h3
     rw[if_neg (by omega),if_neg (by omega),if_pos hk]at h3
     split at h3
     · omega
     · omega
   · have h3:=hW.gd.e _ (List.getElem_mem hi)
     unfold Nd.err Nd.end at h3
     rw[if_neg (by omega),if_neg (by omega),if_neg (by omega)]at h3
     split at h3
     · omega
     · omega
  have h0:TW g H ⟨rowF g.ns.length (put (wtM g (i+1)) i (wsK g.ns[i].ws 0)),fsL g (g.ns.length-(i+1))⟩ s G:=by
   have e0:put (wtM g (i+1)) i (wsK g.ns[i].ws 0)=wtM g (i+1):=by
    have:wsK g.ns[i].ws 0=wtM g (i+1) i:=by simp only[wsK,wtM]; rw[if_neg (by omega)]
    rw[this,put_self]
   rw[e0]; exact h
  have w1:IntKind.i64.wrap ((i:Int)-1)=(i:Int)-1:=wrap_id (by omega) (by omega)
  simp -implicitDefEqProofs[h2,h6,h7,hgb,hi,nd4 hi,nds_len]
  repeat (refine⟨by omega,?_⟩)
  refine tlp28_1 (H:=H) (s:=s) hW hi (fun env G1 g2 g6 g7 h1 hb1 => ?_) g.ns[i].ws.length 0 _ _ (by omega) h0 hb (by simp[h2]) (by simp[h6]) (by simp[h7]) (by simp) (by simp) (by simp) hws
  have eW:put (wtM g (i+1)) i (wsum g.ns[i].ws)=wtM g i:=by
   have:wsum g.ns[i].ws=wtF g i:=by simp only[wtF,hx]
   rw[this,wtM_put]
  rw[eW]at h1
  have hgb1:objCells G1 (pGb H g) 0=[i64 g.pl,.slc (nds g.ns) g.ns.length,.slc (infs g.is) g.is.length]:=oc0 (T:=25) hb1
  have hw1:=h1.cw0
  have efs:g.ns.length-i=(g.ns.length-(i+1))+1:=by omega
  have efi:g.ns.length-1-(g.ns.length-(i+1))=i:=by omega
  have hx2:g.ns[g.ns.length-1-(g.ns.length-(i+1))]? = some g.ns[i]:=by rw[efi]; exact hx
  by_cases hk:g.ns[i].k=2
  · obtain⟨a1,a2,a3,a4,a5⟩:=mv_of hW hi hk
    have eF:fsL g (g.ns.length-i)=(fsL g (g.ns.length-(i+1))).set g.ns[i].i.toNat (i:Int):=by
     rw[efs]; simp only[fsL,hx2]; rw[if_pos hk,efi]
    have hF:=oc0 h1.f
    have hst:=setObj_some h1.f
    have h5:=h1.setF (X:=fsL g (g.ns.length-i)) (by simp)
    have hb5:=gb_keep h1 hb1 (p:=pF H g) (by unfold pF pGb; omega) ⟨ints (fsL g (g.ns.length-i)),3,1,true⟩
    have e3:List.take g.ns[i].i.toNat (ints (fsL g (g.ns.length-(i+1))))++i64 (i:Int)::List.drop (g.ns[i].i.toNat+1) (ints (fsL g (g.ns.length-(i+1))))=ints (fsL g (g.ns.length-i)):=by rw[ints_set (by rw[fsL_len]; exact a1),eF]
    simp -implicitDefEqProofs[g2,g6,g7,hgb1,hw1,wHead,hi,nd0 hi,nd2 hi,nds_len,hk,hF,hst,e3,a1]
    repeat (refine⟨by omega,?_⟩)
    refine ih _ _ (by omega) h5 hb5 ?_ ?_ ?_
    · simp[g2]
    · simp[g6]
    · simp[w1]
  · have eF:fsL g (g.ns.length-i)=fsL g (g.ns.length-(i+1)):=by
     rw[efs]; simp only[fsL,hx2,if_neg hk]
    simp -implicitDefEqProofs[g2,g6,g7,hgb1,hw1,wHead,hi,nd0 hi,nds_len,hk]
    repeat (refine⟨by omega,?_⟩)
    refine ih _ _ (by omega) (by rw[eF]; exact h1) hb1 ?_ ?_ ?_
    · simp[g2]
    · simp[g6]
    · simp[w1]
end
end Go.Proofs.Ytogjmpkehjfecaa.Rc
namespace Go.Proofs.Ytogjmpkehjfecaa.Rc
open Go.Ab Go.Ab.Shr
theorem blkO_row (g:Gm):∀ (k i:Nat),i<k->(blkO g k)[2*i+1]? = some (rowO 0 (zers (g.acts i)))
 | 0,i,h=>by omega
 | k+1,i,h=>by
  have hl:=blkO_len g k
  by_cases e:i=k
  · subst e
    simp only[blkO]
    rw[List.getElem?_append_right (by omega),hl,show 2*i+1-2*i=1 by omega]
    rfl
  · simp only[blkO]
    rw[List.getElem?_append_left (by omega)]
    exact blkO_row g k i (by omega)
theorem zers_flat (n:Nat):(List.replicate n [i64 0,i64 0,i64 0,i64 0]).flatten=ints (zers (4*n)):=by
 have h:[i64 0,i64 0,i64 0,i64 0]=List.replicate 4 (i64 0):=rfl
 rw[h,List.flatten_replicate_replicate]
 simp[ints,zers,Nat.mul_comm]
def s0T (g:Gm) (rnd seed:Int) (LA LP:List (List Int)):TS:=⟨rnd,seed,fun i=>LA.getD i [],fun i=>LP.getD i [],fun i=>zers (g.acts i),zers (4*g.ns.length),zers (4*g.ns.length),zers (4*g.ns.length),zers 10⟩
def c0T (g:Gm):TC:=⟨zers g.ns.length,zers g.is.length⟩
def baseT (H:List AO) (LA LP:List (List Int)):List AO :=
 (H++(⟨outs LA.length (fun i=>H.length+1+i) (lenL LA) 1,36,0,true⟩::LA.map (rowO 1)))++(⟨outs LP.length (fun i=>H.length+1+LA.length+1+i) (lenL LP) 1,36,0,true⟩::LP.map (rowO 1))
def initT (g:Gm) (H:List AO) (rnd seed:Int) (LA LP:List (List Int)):List AO :=
 baseT H LA LP++([gbox g,⟨[i64 rnd,i64 seed,.own H.length 0 g.is.length 1 0,.own (H.length+1+g.is.length) 0 g.is.length 1 0],28,0,true⟩,⟨ints (zers g.ns.length),3,1,true⟩,⟨ints (zers g.is.length),3,1,true⟩,
  gbox g,⟨outs g.is.length (pS H g) g.acts 0,36,0,true⟩]++(blkO g g.is.length++[wObj g H (s0T g rnd seed LA LP),⟨ints (zers (4*g.ns.length)),101,1,true⟩,⟨ints (zers (4*g.ns.length)),101,1,true⟩,⟨ints (zers (4*g.ns.length)),101,1,true⟩]))
section
variable {g:Gm} {H:List AO} {rnd seed:Int} {LA LP:List (List Int)}
theorem init_gb (hA:LA.length=g.is.length) (hP:LP.length=g.is.length):(initT g H rnd seed LA LP)[pGb H g]? = some (gbox g):=by
 have hB:(baseT H LA LP).length=H.length+2+2*g.is.length:=by simp[baseT]; omega
 unfold initT
 rw[List.getElem?_append_right (by unfold pGb; omega),hB,show pGb H g-(H.length+2+2*g.is.length)=0 by unfold pGb; omega]
 rfl
set_option maxRecDepth 10000 in
theorem TW.init (hcl:closed H) (hA:LA.length=g.is.length) (hP:LP.length=g.is.length) (hlA:∀ i,i<g.is.length->lenL LA i=g.acts i) (hlP:∀ i,i<g.is.length->lenL LP i=g.acts i) :
 TW g H (c0T g) (s0T g rnd seed LA LP) (initT g H rnd seed LA LP):=by
 have hB:(baseT H LA LP).length=H.length+2+2*g.is.length:=by simp[baseT]; omega
 have hbl:=blkO_len g g.is.length
 have up:∀ k:Nat,(initT g H rnd seed LA LP)[H.length+2+2*g.is.length+k]? = ([gbox g,⟨[i64 rnd,i64 seed,.own H.length 0 g.is.length 1 0,.own (H.length+1+g.is.length) 0 g.is.length 1 0],28,0,true⟩,⟨ints (zers g.ns.length),3,1,true⟩,⟨ints (zers g.is.length),3,1,true⟩,
  gbox g,⟨outs g.is.length (pS H g) g.acts 0,36,0,true⟩]++(blkO g g.is.length++[wObj g H (s0T g rnd seed LA LP),⟨ints (zers (4*g.ns.length)),101,1,true⟩,⟨ints (zers (4*g.ns.length)),101,1,true⟩,⟨ints (zers (4*g.ns.length)),101,1,true⟩]))[k]? := fun k=>by
  unfold initT
  rw[List.getElem?_append_right (by omega),hB]
  congr 1; omega
 have up6:∀ k:Nat,(initT g H rnd seed LA LP)[H.length+8+2*g.is.length+k]? = (blkO g g.is.length++[wObj g H (s0T g rnd seed LA LP),⟨ints (zers (4*g.ns.length)),101,1,true⟩,⟨ints (zers (4*g.ns.length)),101,1,true⟩,⟨ints (zers (4*g.ns.length)),101,1,true⟩])[k]? := fun k=>by
  rw[show H.length+8+2*g.is.length+k=H.length+2+2*g.is.length+(6+k)by omega,up,List.getElem?_append_right (by simp)]
  congr 1; simp
 have upE:∀ k:Nat,(initT g H rnd seed LA LP)[H.length+8+4*g.is.length+k]? = [wObj g H (s0T g rnd seed LA LP),⟨ints (zers (4*g.ns.length)),101,1,true⟩,⟨ints (zers (4*g.ns.length)),101,1,true⟩,⟨ints (zers (4*g.ns.length)),101,1,true⟩][k]? := fun k=>by
  rw[show H.length+8+4*g.is.length+k=H.length+8+2*g.is.length+(2*g.is.length+k)by omega,up6,List.getElem?_append_right (by omega),hbl]
  congr 1; omega
 have dn:∀ k:Nat,k<(baseT H LA LP).length->(initT g H rnd seed LA LP)[k]? = (baseT H LA LP)[k]? := fun k hk=>by
  unfold initT
  rw[List.getElem?_append_left hk]
 have b1:∀ k:Nat,k<H.length+1+g.is.length->(baseT H LA LP)[k]? = (H++(⟨outs LA.length (fun i=>H.length+1+i) (lenL LA) 1,36,0,true⟩::LA.map (rowO 1)))[k]? := fun k hk=>by
  unfold baseT
  rw[List.getElem?_append_left (by simp; omega)]
 have b2:∀ k:Nat,(baseT H LA LP)[H.length+1+g.is.length+k]? = ((⟨outs LP.length (fun i=>H.length+1+LA.length+1+i) (lenL LP) 1,36,0,true⟩::LP.map (rowO 1)):List AO)[k]? := fun k=>by
  unfold baseT
  rw[List.getElem?_append_right (by simp; omega)]
  congr 1; simp; omega
 have outs_c:∀ {I J:Nat} {p q n m:Nat->Nat},I=J->(∀ i,i<J->p i=q i)->(∀ i,i<J->n i=m i)->outs I p n 1=outs J q m 1:=fun {I J p q n m} hI hp hn=>by
  subst hI
  unfold outs
  apply List.map_congr_left
  intro j hj
  simp only[List.mem_range]at hj
  rw[hp j hj,hn j hj]
 have hgd:∀ (L:List (List Int)) (i:Nat),(s0T g rnd seed LA LP).A=(fun i=>LA.getD i []):=fun _ _=>rfl
 constructor
 case l =>
  refine⟨fun i hi => ?_,fun i hi => ?_,fun i hi=>by simp[s0T],by simp[s0T],by simp[s0T],by simp[s0T],by simp[s0T],by simp[c0T],by simp[c0T]⟩
  · have:=hlA i hi; simpa[s0T,lenL]using this
  · have:=hlP i hi; simpa[s0T,lenL]using this
 case len=>simp[initT,hB,hbl,pE]; omega
 case low =>
  intro i hi
  rw[dn i (by omega),b1 i (by omega),List.getElem?_append_left hi]
 case m=>rw[show pM H g=H.length+2+2*g.is.length+2 by unfold pM; omega,up]; rfl
 case f=>rw[show pF H g=H.length+2+2*g.is.length+3 by unfold pF; omega,up]; rfl
 case so=>rw[show pSo H g=H.length+2+2*g.is.length+5 by unfold pSo; omega,up]; rfl
 case ss=>intro i hi; rw[show pS H g i=H.length+8+2*g.is.length+(2*i+1)by unfold pS; omega,up6,List.getElem?_append_left (by omega),blkO_row g _ i hi]; rfl
 case w=>rw[show pW H g=H.length+8+4*g.is.length+0 by unfold pW; omega,upE]; rfl
 case v=>rw[show pV H g=H.length+8+4*g.is.length+1 by unfold pV; omega,upE]; rfl
 case r=>rw[show pR H g=H.length+8+4*g.is.length+2 by unfold pR; omega,upE]; rfl
 case o=>rw[show pO H g=H.length+8+4*g.is.length+3 by unfold pO; omega,upE]; rfl
 case ao =>
  unfold pAo
  rw[dn _ (by omega),b1 _ (by omega),List.getElem?_append_right (by omega)]
  simp only[Nat.sub_self,List.getElem?_cons_zero]
  have:=outs_c (q:=pA H g) (m:=g.acts) hA (fun i _=>by unfold pA; omega) hlA (p:=fun i=>H.length+1+i)
  rw[this]
 case a =>
  intro i hi
  rw[show pA H g i=H.length+(i+1)by unfold pA; omega,dn _ (by omega),b1 _ (by omega),List.getElem?_append_right (by omega),show H.length+(i+1)-H.length=i+1 by omega]
  simp[s0T,rowO,hA,hi]
 case po =>
  rw[show pPo H g=H.length+1+g.is.length+0 by unfold pPo; omega,dn _ (by omega),b2]
  simp only[List.getElem?_cons_zero]
  have:=outs_c (q:=pP H g) (m:=g.acts) hP (fun i _=>by unfold pP; omega) hlP (p:=fun i=>H.length+1+LA.length+1+i)
  rw[this]
 case p =>
  intro i hi
  rw[show pP H g i=H.length+1+g.is.length+(i+1)by unfold pP; omega,dn _ (by omega),b2]
  simp[s0T,rowO,hP,hi]
 case cl =>
  have hlen:(initT g H rnd seed LA LP).length=pE H g:=by simp[initT,hB,hbl,pE]; omega
  have hou:∀ (I:Nat) (p n:Nat->Nat) (v:Nat),(∀ i,i<I->p i<pE H g)->∀ x∈outs I p n v,x.under (pE H g)=true:=fun I p n v hp x hx=>by
   simp only[outs,List.mem_map,List.mem_range]at hx
   obtain⟨i,hi,rfl⟩:=hx
   simpa using hp i hi
  have hin:∀ (l:List Int),∀ x∈ints l,x.under (pE H g)=true:=fun l x hx=>by
   simp only[ints,List.mem_map]at hx
   obtain⟨n,_,rfl⟩:=hx
   rfl
  have hbk:∀ (k:Nat),∀ o∈blkO g k,∀ x∈o.cells,x.under (pE H g)=true:=fun k=>by
   induction k with
   | zero=>intro o ho; simp[blkO]at ho
   | succ k ih =>
    intro o ho x hx
    simp only[blkO,List.mem_append,List.mem_cons,List.not_mem_nil,or_false]at ho
    rcases ho with ho | rfl | rfl
    · exact ih o ho x hx
    · simp at hx; rcases hx with rfl | rfl<;>rfl
    · exact hin _ x hx
  have hgb:∀ x∈(gbox g).cells,x.under (pE H g)=true:=fun x hx=>by
   simp only[gbox,List.mem_cons,List.not_mem_nil,or_false]at hx
   rcases hx with rfl | rfl | rfl
   · rfl
   · simp[nds_under]
   · simp[infs_under]
  have hwb:∀ x∈(wObj g H (s0T g rnd seed LA LP)).cells,x.under (pE H g)=true:=by
   rw[←SV.underL_iff]
   simp only[wObj,oI,SV.underL_append,wHead,Bool.and_eq_true]
   unfold pM pF pAo pPo pSo pV pR pO pE
   refine⟨?_,by simp⟩
   simp[nds_under,infs_under]
   omega
  intro i o ho x hx
  rw[hlen]
  have hm:o∈initT g H rnd seed LA LP:=List.mem_of_getElem? ho
  unfold initT baseT at hm
  simp only[List.mem_append,List.mem_cons,List.not_mem_nil,or_false,List.mem_map]at hm
  rcases hm with ((hm | rfl | ⟨l,_,rfl⟩) | rfl | ⟨l,_,rfl⟩) | (rfl | rfl | rfl | rfl | rfl | rfl) | hm | rfl | rfl | rfl | rfl
  · obtain⟨j,hj⟩:=List.getElem?_of_mem hm
    exact SV.under_mono (by unfold pE; omega) x (hcl j o hj x hx)
  · exact hou _ _ _ _ (fun i hi=>by unfold pE; omega) x hx
  · exact hin _ x hx
  · exact hou _ _ _ _ (fun i hi=>by unfold pE; omega) x hx
  · exact hin _ x hx
  · exact hgb x hx
  · simp only[List.mem_cons,List.not_mem_nil,or_false]at hx
    rcases hx with rfl | rfl | rfl | rfl
    · rfl
    · rfl
    · show decide (_<_)=true
      rw[decide_eq_true_iff]; unfold pE; omega
    · show decide (_<_)=true
      rw[decide_eq_true_iff]; unfold pE; omega
  · exact hin _ x hx
  · exact hin _ x hx
  · exact hgb x hx
  · exact hou _ _ _ _ (fun i hi=>by unfold pS pE; omega) x hx
  · exact hbk _ o hm x hx
  · exact hwb x hx
  · exact hin _ x hx
  · exact hin _ x hx
  · exact hin _ x hx
end
end Go.Proofs.Ytogjmpkehjfecaa.Rc
namespace Go.Proofs.Ytogjmpkehjfecaa.Rc
open Go.Ab Go.Ab.Shr
section
variable {H:List AO} {g:Gm} {rnd seed:Int} {LA LP:List (List Int)}
set_option maxRecDepth 10000 in
theorem ok28 (hW:Wg g) (hcl0:closed H) (hA:LA.length=g.is.length) (hP:LP.length=g.is.length) (hlA:∀ i,i<g.is.length->lenL LA i=g.acts i) (hlP:∀ i,i<g.is.length->lenL LP i=g.acts i) :
 OkP Try.prog 28 [.agg g.cells,.agg [i64 rnd,i64 seed,.own H.length 0 g.is.length 1 0,.own (H.length+1+g.is.length) 0 g.is.length 1 0]] (baseT H LA LP) fun out G' =>
  out=.ret (.ptr (.own (pW H g) 0 0 0 0) 0)∧TW g H (cTC g) (s0T g rnd seed LA LP) G':=by
 have hn:=hW.gd.n
 have hil:=hW.gd.i
 have hB:(baseT H LA LP).length=H.length+2+2*g.is.length:=by simp[baseT]; omega
 have hti:=TW.init (rnd:=rnd) (seed:=seed) hcl0 hA hP hlA hlP
 have htb:=init_gb (rnd:=rnd) (seed:=seed) (H:=H) hA hP
 have hin:initT g H rnd seed LA LP=baseT H LA LP++([gbox g,⟨[i64 rnd,i64 seed,.own H.length 0 g.is.length 1 0,.own (H.length+1+g.is.length) 0 g.is.length 1 0],28,0,true⟩,⟨ints (zers g.ns.length),3,1,true⟩,⟨ints (zers g.is.length),3,1,true⟩,
  gbox g,⟨outs g.is.length (pS H g) g.acts 0,36,0,true⟩]++(blkO g g.is.length++[wObj g H (s0T g rnd seed LA LP),⟨ints (zers (4*g.ns.length)),101,1,true⟩,⟨ints (zers (4*g.ns.length)),101,1,true⟩,⟨ints (zers (4*g.ns.length)),101,1,true⟩])):=rfl
 generalize baseT H LA LP=B at *
 refine okP_fn hm Try.func28 c28 (by simp[Gm.cells,nds_under,infs_under]; try omega) fun hcl => ?_
 have h37:=fun H'=>ok37 (H:=H') hW
 simp only[Gm.cells]at h37
 simp -implicitDefEqProofs[i28,r28,Gm.cells]
 repeat (refine⟨by omega,?_⟩)
 refine calln_go (L:=gbox g::⟨outs g.is.length (pB (B.length+4)) g.acts 0,36,0,true⟩::blkO g g.is.length) (r:=.own (B.length+4+1) 0 g.is.length 1 0) (fun H' hl => ?_) ?_
 · have:=h37 H'
   simp at hl
   rw[hl]at this
   exact this
 have hbl:=blkO_len g g.is.length
 generalize blkO g g.is.length=M at *
 simp -implicitDefEqProofs[gbox]
 refine⟨rfl,by omega,by omega,by omega,by omega,by omega,by omega,?_⟩
 have w1:IntKind.i64.wrap ((g.ns.length:Int)-1)=(g.ns.length:Int)-1:=wrap_id (by omega) (by omega)
 have p6:B.length+(M.length+6)=pW H g:=by unfold pW; omega
 have p7:B.length+(M.length+7)=pV H g:=by unfold pV; omega
 have p8:B.length+(M.length+8)=pR H g:=by unfold pR; omega
 have p9:B.length+(M.length+9)=pO H g:=by unfold pO; omega
 have p2:B.length+2=pM H g:=by unfold pM; omega
 have p3:B.length+3=pF H g:=by unfold pF; omega
 have p5:B.length+5=pSo H g:=by unfold pSo; omega
 have p0:B.length=pGb H g:=by unfold pGb; omega
 have ps:pB (B.length+4)=pS H g:=by funext i; unfold pB pS; omega
 refine LI.cong (H':=initT g H rnd seed LA LP) ?_ ?_
 · rw[hin,p7,p8,p9,p2,p3,p5,ps]
   simp[wObj,oI,wHead,s0T,gbox,zers_flat,ints,zers,pAo,pPo]
 · rw[p6,p0]
   refine tlp28_0 (s:=s0T g rnd seed LA LP) hW (fun env G g6 h => ?_) g.ns.length _ _ (Nat.le_refl _) ?_ htb (by simp) (by simp) (by simp[w1])
   · simp -implicitDefEqProofs[g6]
     exact⟨_,_,⟨rfl,h⟩,cv_id⟩
   · have e1:rowF g.ns.length (wtM g g.ns.length)=zers g.ns.length:=by
      apply List.ext_getElem?
      intro i
      by_cases hi:i<g.ns.length
      · simp[rowF,zers,wtM,hi]; omega
      · rw[List.getElem?_eq_none (by simp; omega),List.getElem?_eq_none (by simp; omega)]
     rw[e1,Nat.sub_self]
     exact hti
end
end Go.Proofs.Ytogjmpkehjfecaa.Rc
namespace Go.Proofs.Ytogjmpkehjfecaa.Rc
open Go.Ab Go.Ab.Shr
def fstE (f:Nat->Int):Nat->Nat->Int
 | 0,_=>0
 | m+1,i=>if f i≠0 then f i else fstE f m (i+1)
theorem fstE_zero {f:Nat->Int}:∀ (m i:Nat),fstE f m i=0↔∀ j,i≤j->j<i+m->f j=0
 | 0,i=>by simp only[fstE,true_iff]; intro j h1 h2; omega
 | m+1,i=>by
  simp only[fstE]
  by_cases h:f i=0
  · rw[if_neg (by simpa using h),fstE_zero m (i+1)]
    constructor
    · intro hh j h1 h2
      by_cases e:j=i
      · subst e; exact h
      · exact hh j (by omega) (by omega)
    · intro hh j h1 h2; exact hh j (by omega) (by omega)
  · rw[if_pos h]
    constructor
    · intro e; exact absurd e h
    · intro hh; exact hh i (Nat.le_refl _) (by omega)
def perQ (g:Gm) (p:Nat):Int:=if g.perf p=true then 0 else 13
def Gm.prpE (g:Gm):Int:=if g.formE≠0 then g.formE else fstE (perQ g) g.pl.toNat 0
section
variable {g:Gm} {H:List AO}
theorem perf_at (hf:g.formE=0) {p:Nat} (hp:(p:Int)<g.pl):g.perfV p=g.perf p∧g.perfE p=0:=by
 have h1:g.perfE p=0:=by
  unfold Gm.perfE
  rw[if_neg (by simpa using hf),if_neg (by omega)]
 exact⟨by unfold Gm.perfV; rw[if_pos h1],h1⟩
theorem tlp36_0 (hf:g.formE=0) {B:List AO} (hB:objCells B H.length 0=g.cells) {N:Nat} {K:XE->Env->List AO->Prop}
 (hret:∀ e env,fstE (perQ g) g.pl.toNat 0=e->e≠0->env.get 2=i64 e->K .ret env B) (hexit:fstE (perQ g) g.pl.toNat 0=0->∀ env,K (.exit 0) env B) :
 ∀ (m p:Nat) (env:Env),((p+m:Nat):Int)=g.pl->fstE (perQ g) m p=fstE (perQ g) g.pl.toNat 0->env.get 1=.ptr (.own H.length 0 0 0 0) 0->env.get 13=i64 g.pl->env.get 14=i64 p->LI Try.prog N drawB l36_0 env B K:=by
 have hW:=wg_of hf
 have hp4:=hW.gd.p4
 intro m
 induction m with
 | zero =>
  intro p env hp hE h1 h13 h14
  refine li_go hm l36_0.eq_1 ?_
  simp -implicitDefEqProofs[h13,h14,show ¬ (p:Int)<g.pl by omega]
  exact hexit hE.symm _
 | succ m ih =>
  intro p env hp hE h1 h13 h14
  refine li_go hm l36_0.eq_1 ?_
  have hpp:(p:Int)<g.pl:=by omega
  obtain⟨q1,q2⟩:=perf_at hf hpp
  have h63:=fun H=>ok63 (H:=H) (g:=g) p
  rw[q1,q2]at h63
  simp only[Gm.cells]at h63 hB
  have w1:=wrap_suc (show p<9223372036854775807 by omega)
  simp -implicitDefEqProofs[h1,h13,h14,hpp,hB]
  refine call_go (h63 _) ?_
  by_cases hq:g.perf p=true
  · have hE2:fstE (perQ g) m (p+1)=fstE (perQ g) g.pl.toNat 0:=by rw[←hE]; simp[fstE,perQ,hq]
    simp -implicitDefEqProofs[hq,h1,h13,h14]
    refine ih (p+1) _ (by omega) hE2 ?_ ?_ ?_
    · simp
    · simp
    · simp[w1]
  · have hE2:fstE (perQ g) g.pl.toNat 0=13:=by rw[←hE]; simp[fstE,perQ,hq]
    have hq':g.perf p=false:=by simpa using hq
    simp -implicitDefEqProofs[hq']
    exact hret 13 _ hE2 (by decide) (by simp)
theorem ok36:Ok Try.prog 36 [.agg g.cells] H (.ret (i64 g.prpE)) H:=by
 refine ok_fn hm Try.func36 c36 (by simp[Gm.cells,nds_under,infs_under]) fun hcl => ?_
 have h62:=fun H=>ok62 (H:=H) (g:=g)
 simp only[Gm.cells]at h62
 simp -implicitDefEqProofs[i36,r36,Gm.cells]
 refine call_go (h62 _) ?_
 by_cases hf:g.formE=0
 · have e:g.prpE=fstE (perQ g) g.pl.toNat 0:=by unfold Gm.prpE; rw[if_neg (by simpa using hf)]
   have hp:=(wg_of hf).gd.p1
   simp -implicitDefEqProofs[hf]
   rw[e]
   refine tlp36_0 (H:=H) hf (by simp[Gm.cells]) (fun e env he hne h2 => ?_) (fun he env => ?_) g.pl.toNat 0 _ (by omega) rfl (by simp) (by simp) (by simp)
   · simp -implicitDefEqProofs[h2]
     rw[he]
     exact cv_fz 1 hcl rfl (by simp)
   · simp -implicitDefEqProofs
     rw[he]
     exact cv_fz 1 hcl rfl (by simp)
 · have e:g.prpE=g.formE:=by unfold Gm.prpE; rw[if_pos hf]
   simp -implicitDefEqProofs[hf,e]
   exact cv_fz 1 hcl rfl (by simp)
end
def rowE (g:Gm) (L:List (List Int)) (least:Int) (i:Nat):Int :=
 if((lenL L i:Nat):Int)≠(g.is.getD i (0,0)).2 then 3 else if(L.getD i []).any (fun x=>decide (x<least)||decide (70368744177664<x))=true then 2 else 0
def lstE (g:Gm) (L:List (List Int)) (least:Int):Int:=if L.length≠g.is.length then 3 else fstE (rowE g L least) g.is.length 0
section
variable {g:Gm} {H B:List AO} {L:List (List Int)} {least:Int}
set_option maxRecDepth 10000 in
theorem tlp39_1 {l:List Int} (hl:l.length≤10) {x17 x18 x19:SV} {N:Nat} {K:XE->Env->List AO->Prop}
 (hret:l.any (fun x=>decide (x<least)||decide (70368744177664<x))=true->∀ env,env.get 6=i64 2->K .ret env B)
 (hexit:l.any (fun x=>decide (x<least)||decide (70368744177664<x))=false->∀ env,env.get 2=i64 least->env.get 3=.ptr (.own H.length 0 0 0 0) 0->env.get 17=x17->env.get 18=x18->env.get 19=x19->K (.exit 2) env B) :
 ∀ (m i:Nat) (env:Env),i+m=l.length->(∀ j (h:j<l.length),j<i->¬ (l[j]<least∨70368744177664<l[j]))->env.get 2=i64 least->env.get 3=.ptr (.own H.length 0 0 0 0) 0->env.get 17=x17->env.get 18=x18->env.get 19=x19 →
  env.get 33=sl l->env.get 34=i64 l.length->env.get 35=i64 i->LI Try.prog N drawB l39_1 env B K:=by
 intro m
 induction m with
 | zero =>
  intro i env hi hp h2 h3 h17 h18 h19 h33 h34 h35
  refine li_go hm l39_1.eq_1 ?_
  have e:i=l.length:=by omega
  subst e
  simp -implicitDefEqProofs[h34,h35]
  refine hexit ?_ _ (by simp[h2]) (by simp[h3]) (by simp[h17]) (by simp[h18]) (by simp[h19])
  rw[List.any_eq_false]
  intro x hx
  obtain⟨k,hk,rfl⟩:=List.getElem_of_mem hx
  simpa using hp k hk hk
 | succ m ih =>
  intro i env hi hp h2 h3 h17 h18 h19 h33 h34 h35
  refine li_go hm l39_1.eq_1 ?_
  have hil:i<l.length:=by omega
  have w1:=wrap_suc (show i<9223372036854775807 by omega)
  have bad:(l[i]<least∨70368744177664<l[i])->l.any (fun x=>decide (x<least)||decide (70368744177664<x))=true:=fun hb=>by
   rw[List.any_eq_true]
   exact⟨l[i],List.getElem_mem hil,by simpa using hb⟩
  by_cases c1:l[i]<least
  · simp -implicitDefEqProofs[h2,h3,h17,h18,h19,h33,h34,h35,hil,sl,c1]
    exact⟨by omega,hret (bad (.inl c1)) _ (by simp)⟩
  · by_cases c2:70368744177664<l[i]
    · simp -implicitDefEqProofs[h2,h3,h17,h18,h19,h33,h34,h35,hil,sl,c1,c2]
      exact⟨by omega,hret (bad (.inr c2)) _ (by simp)⟩
    · simp -implicitDefEqProofs[h2,h3,h17,h18,h19,h33,h34,h35,hil,sl,c1,c2]
      refine⟨by omega,ih (i+1) _ (by omega) (fun j hj hji => ?_) ?_ ?_ ?_ ?_ ?_ ?_ ?_ ?_⟩
      rotate_left
      · simp
      · simp[h3]
      · simp[h17]
      · simp[h18]
      · simp[h19]
      · simp[sl]
      · simp
      · simp[w1]
      by_cases e:j=i
      · subst e; exact fun h=>h.elim c1 c2
      · exact hp j hj (by omega)
set_option maxRecDepth 10000 in
theorem tlp39_0 (hW:Wg g) (hB:objCells B H.length 0=g.cells) (hLl:L.length=g.is.length) {N:Nat} {K:XE->Env->List AO->Prop}
 (hret:∀ e env,fstE (rowE g L least) g.is.length 0=e->env.get 6=i64 e->K .ret env B) (hexit:fstE (rowE g L least) g.is.length 0=0->∀ env,K (.exit 0) env B) :
 ∀ (m i:Nat) (env:Env),i+m=g.is.length->fstE (rowE g L least) m i=fstE (rowE g L least) g.is.length 0->env.get 2=i64 least->env.get 3=.ptr (.own H.length 0 0 0 0) 0->env.get 17=.slc (sls L) L.length->env.get 18=i64 L.length->env.get 19=i64 i →
  LI Try.prog N drawB l39_0 env B K:=by
 have hil:=hW.gd.i
 intro m
 induction m with
 | zero =>
  intro i env hi hE h2 h3 h17 h18 h19
  refine li_go hm l39_0.eq_1 ?_
  have e:i=L.length:=by omega
  subst e
  simp -implicitDefEqProofs[h18,h19]
  exact hexit hE.symm _
 | succ m ih =>
  intro i env hi hE h2 h3 h17 h18 h19
  refine li_go hm l39_0.eq_1 ?_
  have hii:i<g.is.length:=by omega
  have hiL:i<L.length:=by omega
  have hgi:g.is.getD i (0,0)=g.is[i]:=by simp[hii]
  have hgL:L.getD i []=L[i]:=by simp[hiL]
  have hac:=acts_le hW hii
  have ha:(g.acts i:Int)=g.is[i].2:=by unfold Gm.acts at hac ⊢; rw[hgi]at hac ⊢; omega
  have w1:=wrap_suc (show i<9223372036854775807 by omega)
  have hig:infs_at hii=infs_at hii:=rfl
  have i2:(infs g.is)[i*2+1]?.getD .any=i64 g.is[i].2:=by
   rw[←List.getElem?_drop,infs_at hii]; rfl
  have i3:(infs g.is).length=2*g.is.length:=infs_len _
  simp only[Gm.cells]at hB
  by_cases hl:(L[i].length:Int)=g.is[i].2
  · have hR:rowE g L least i=if L[i].any (fun x=>decide (x<least)||decide (70368744177664<x))=true then 2 else 0:=by
     unfold rowE
     rw[lenL_at hiL,hgi,if_neg (by simpa using hl),hgL]
    simp -implicitDefEqProofs[h2,h3,h17,h18,h19,hiL,hii,sls_get hiL,hB,i2,i3,hl,sl]
    repeat (refine⟨by omega,?_⟩)
    refine tlp39_1 (H:=H) (l:=L[i]) (least:=least) (by omega) (x17:=.slc (sls L) L.length) (x18:=i64 L.length) (x19:=i64 i) (fun hb env g6 => ?_) (fun hb env g2 g3 g17 g18 g19 => ?_) L[i].length 0 _ (by omega) (fun j hj hj0=>by omega) (by simp[h2]) (by simp[h3]) (by simp[h17]) (by simp[h18]) (by simp[h19]) (by simp[sl]) (by simp[hl]) (by simp)
    · simp -implicitDefEqProofs
      refine hret 2 _ ?_ g6
      rw[←hE]; simp[fstE,hR,hb]
    · simp -implicitDefEqProofs[g2,g3,g17,g18,g19]
      refine ih (i+1) _ (by omega) (by rw[←hE]; simp[fstE,hR,hb]) ?_ ?_ ?_ ?_ ?_
      · simp[g2]
      · simp[g3]
      · simp[g17]
      · simp[g18]
      · simp[w1]
  · have hR:rowE g L least i=3:=by
     unfold rowE
     rw[lenL_at hiL,hgi,if_pos hl]
    simp -implicitDefEqProofs[h2,h3,h17,h18,h19,hiL,hii,sls_get hiL,hB,i2,i3,hl,sl]
    repeat (refine⟨by omega,?_⟩)
    refine hret 3 _ ?_ (by simp)
    rw[←hE]; simp[fstE,hR]
theorem ok39 (hW:Wg g):Ok Try.prog 39 [.agg g.cells,.slc (sls L) L.length,i64 least] H (.ret (i64 (lstE g L least))) H:=by
 refine ok_fn hm Try.func39 c39 (by simp[Gm.cells,nds_under,infs_under,sls_under]) fun hcl => ?_
 simp -implicitDefEqProofs[i39,r39,Gm.cells]
 by_cases hl:L.length=g.is.length
 · have e:lstE g L least=fstE (rowE g L least) g.is.length 0:=by unfold lstE; rw[if_neg (by simpa using hl)]
   rw[e]
   simp -implicitDefEqProofs[hl]
   refine tlp39_0 (H:=H) (least:=least) (L:=L) hW (by simp[Gm.cells]) hl (fun e env he h6 => ?_) (fun he env => ?_) g.is.length 0 _ (by omega) rfl (by simp) (by simp) (by simp[hl]) (by simp[hl]) (by simp)
   · simp -implicitDefEqProofs[h6]
     rw[he]
     exact cv_fz 1 hcl rfl (by simp)
   · simp -implicitDefEqProofs
     rw[he]
     exact cv_fz 1 hcl rfl (by simp)
 · have e:lstE g L least=3:=by unfold lstE; rw[if_pos hl]
   rw[e]
   have hl2:¬ (L.length:Int)=g.is.length:=by omega
   simp -implicitDefEqProofs[hl2,hl]
   exact cv_fz 1 hcl rfl (by simp)
end
structure Tin where
 rnd:Int
 seed:Int
 A:List (List Int)
 P:List (List Int)
def Tin.cells (t:Tin):List SV:=[i64 t.rnd,i64 t.seed,.slc (sls t.A) t.A.length,.slc (sls t.P) t.P.length]
def valE (g:Gm) (t:Tin):Int:=if t.rnd<0∨1000000<t.rnd∨t.seed<0∨2147483646<t.seed then 2 else if lstE g t.A (-70368744177664)≠0 then lstE g t.A (-70368744177664)else lstE g t.P 0
def chkS (g:Gm) (t:Tin):Int:=if g.prpE≠0 then g.prpE else valE g t
theorem prp_form {g:Gm} (h:g.prpE=0):Wg g:=by
 unfold Gm.prpE at h
 by_cases hf:g.formE=0
 · exact wg_of hf
 · rw[if_pos hf]at h; exact absurd h hf
section
variable {g:Gm} {H:List AO} {t:Tin}
set_option maxRecDepth 10000 in
theorem ok16:Ok Try.prog 16 [.agg g.cells,.agg t.cells] H (.ret (i64 (chkS g t))) H:=by
 refine ok_fn hm Try.func16 c16 (by simp[Gm.cells,nds_under,infs_under,Tin.cells,sls_under]) fun hcl => ?_
 have h36:=fun H=>ok36 (H:=H) (g:=g)
 have h39:=fun H L le hW=>ok39 (H:=H) (g:=g) (L:=L) (least:=le) hW
 simp only[Gm.cells]at h36 h39
 simp -implicitDefEqProofs[i16,r16,Gm.cells,Tin.cells]
 refine call_go (h36 _) ?_
 by_cases hp:g.prpE=0
 · have hW:=prp_form hp
   have e:chkS g t=valE g t:=by unfold chkS; rw[if_neg (by simpa using hp)]
   rw[e]
   by_cases c1:t.rnd<0
   · simp -implicitDefEqProofs[hp,c1]
     exact cv_fz 1 hcl rfl (by simp[valE,c1])
   · by_cases c2:1000000<t.rnd
     · simp -implicitDefEqProofs[hp,c1,c2]
       exact cv_fz 1 hcl rfl (by simp[valE,c1,c2])
     · by_cases c3:t.seed<0
       · simp -implicitDefEqProofs[hp,c1,c2,c3]
         exact cv_fz 1 hcl rfl (by simp[valE,c1,c2,c3])
       · by_cases c4:2147483646<t.seed
         · simp -implicitDefEqProofs[hp,c1,c2,c3,c4]
           exact cv_fz 1 hcl rfl (by simp[valE,c1,c2,c3,c4])
         · simp -implicitDefEqProofs[hp,c1,c2,c3,c4]
           refine call_go (h39 _ _ _ hW) ?_
           by_cases c5:lstE g t.A (-70368744177664)=0
           · simp -implicitDefEqProofs[c5]
             refine call_go (h39 _ _ _ hW) ?_
             simp -implicitDefEqProofs
             exact cv_fz 1 hcl rfl (by simp[valE,c1,c2,c3,c4,c5])
           · simp -implicitDefEqProofs[c5]
             exact cv_fz 1 hcl rfl (by simp[valE,c1,c2,c3,c4,c5])
 · have e:chkS g t=g.prpE:=by unfold chkS; rw[if_pos hp]
   rw[e]
   simp -implicitDefEqProofs[hp]
   exact cv_fz 1 hcl rfl (by simp)
end
end Go.Proofs.Ytogjmpkehjfecaa.Rc
namespace Go.Proofs.Ytogjmpkehjfecaa.Rc
open Go.Ab Go.Ab.Shr
end Go.Proofs.Ytogjmpkehjfecaa.Rc
namespace Go.Proofs.Ytogjmpkehjfecaa.Rc
open Go.Ab Go.Ab.Shr
end Go.Proofs.Ytogjmpkehjfecaa.Rc
namespace Go.Proofs.Ytogjmpkehjfecaa.Rc
open Go.Ab Go.Ab.Shr
abbrev rpt (f:Nat):SV:=.ptr (.own f 0 0 0 0) 0
def zT:AO:=⟨[i64 0,i64 0,nl,nl],28,0,true⟩
def eT (e:Int):AO:=⟨[i64 e],31,0,true⟩
section
variable {H:List AO}
theorem okD27n {f g:Nat} (hf:f<H.length) (hg:g<H.length):OkD Try.prog 27 [rpt f,rpt g] H none (fun H'=>H'=H):=by
 refine okD_rc hm Try.func27 c27 (by rfl) fun hcl => ?_
 simp -implicitDefEqProofs[i27s,i27,rvD,SV.isIf,SV.ifNil]
 exact cv_id
theorem okD27e {f g:Nat} {c1 c2:List SV} (hf:H[f]? = some ⟨c1,28,0,true⟩) (hc1:c1.length=4) (hg:H[g]? = some ⟨c2,31,0,true⟩) (hc2:c2.length=1) (hne:f≠g) :
 OkD Try.prog 27 [rpt f,rpt g] H (some panV) (fun H'=>H'=(H.set f zT).set g (eT 5)):=by
 have hj:=getElem?_lt hf
 have hjg:=getElem?_lt hg
 have e1:∀ L,objCells (H++L) f 0=c1:=fun L=>oc_at hf L
 have e10:objCells H f 0=c1:=oc0 hf
 have e2:∀ (L:List AO) (h:AO->AO),Ab.setObj (H++L) f h=H.set f (h ⟨c1,28,0,true⟩)++L:=fun L h=>so_at hf L h
 have hg':(H.set f zT)[g]? = some ⟨c2,31,0,true⟩:=by rw[List.getElem?_set_ne hne]; exact hg
 have hg2:((H.set f zT).set g (eT 13))[g]? = some (eT 13):=by rw[List.getElem?_set_self (by simpa using hjg)]
 have d1:List.drop 4 c1=[]:=List.drop_of_length_le (by omega)
 have d2:List.drop 1 c2=[]:=List.drop_of_length_le (by omega)
 have d3:c2.tail=[]:=by rw[←List.drop_one]; exact d2
 have s1:∀ h:AO->AO,Ab.setObj H f h=H.set f (h ⟨c1,28,0,true⟩):=fun h=>setObj_some hf h
 have o1:objCells (H.set f zT) g 0=c2:=oc0 hg'
 have s2:∀ h:AO->AO,Ab.setObj (H.set f zT) g h=(H.set f zT).set g (h ⟨c2,31,0,true⟩):=fun h=>setObj_some hg' h
 have o2:∀ L,objCells ((H.set f zT).set g (eT 13)++L) g 0=[i64 13]:=fun L=>oc_at hg2 L
 have s3:∀ (L:List AO) (h:AO->AO),Ab.setObj ((H.set f zT).set g (eT 13)++L) g h=((H.set f zT).set g (eT 13)).set g (h (eT 13))++L:=fun L h=>so_at hg2 L h
 have n1:∀ (L:List AO) (v:Nat),objCells ((H.set f zT).set g (eT 13)++L) H.length v=objCells L 0 v:=fun L v=>g2_n0 (H:=H) (L:=L) (a:=f) (k:=g) (o:=zT) (p:=eT 13) v
 have n2:∀ (L:List AO) (h:AO->AO),Ab.setObj ((H.set f zT).set g (eT 13)++L) H.length h=(H.set f zT).set g (eT 13)++Ab.setObj L 0 h:=fun L h=>by
  have:=g2_sn (H:=H) (L:=L) (a:=f) (k:=g) (o:=zT) (p:=eT 13) 0 h
  simpa[G2]using this
 have hcz:closed H->closed ((H.set f zT).set g (eT 5)):=fun hcl=>closed_set (closed_set hcl f (o:=zT) (by simp[zT])) g (by simp[eT])
 simp only[zT,eT]at o1 s2 o2 s3 n1 n2
 refine okD_rc hm Try.func27 c27 (by rfl) fun hcl => ?_
 simp -implicitDefEqProofs[i27s,i27,rvD,SV.isIf,SV.ifNil,panV,e10,s1,hc1,d1,o1,s2,hc2,d2,d3,o2,s3,SV.ifIs,SV.ifVal,n1,n2]
 refine⟨rfl,?_⟩
 exact cv_drop rfl (by simp) (by simpa[zT,eT]using hcz hcl) rfl
end
end Go.Proofs.Ytogjmpkehjfecaa.Rc
namespace Go.Proofs.Ytogjmpkehjfecaa.Rc
open Go.Ab Go.Ab.Shr
def okB (g:Gm) (s:TS):Bool:=(List.range g.is.length).all fun i=>(List.range (g.acts i)).all fun a => !(decide ((s.A i).getD a 0 < -70368744177664)) && !(decide (70368744177664<(s.A i).getD a 0)) && !(decide (70368744177664<(s.P i).getD a 0))
theorem okB_iff {g:Gm} {s:TS}:okB g s=true↔okTS g s:=by
 unfold okB okTS okAt
 simp only[List.all_eq_true,List.mem_range,Bool.and_eq_true,Bool.not_eq_true',decide_eq_false_iff_not]
 constructor
 · intro h i hi a ha; have:=h i hi a ha; exact⟨this.1.1,this.1.2,this.2⟩
 · intro h i hi a ha; have:=h i hi a ha; exact⟨⟨this.1,this.2.1⟩,this.2.2⟩
def rnds (g:Gm):Nat->TS->Option TS
 | 0,s=>some s
 | n+1,s=>if okB g (rndT g (cTC g) s)=true then rnds g n (rndT g (cTC g) s)else none
def Tin.zero:Tin:=⟨0,0,[],[]⟩
def outT (g:Gm) (s:TS):Tin:=⟨s.rnd,s.seed,(List.range g.is.length).map s.A,(List.range g.is.length).map s.P⟩
def runR (g:Gm) (t:Tin) (n:Int):Tin×Int :=
 if chkS g t≠0 then(.zero,chkS g t)else if n<0∨20000<n∨1000000<t.rnd+n then(.zero,2)else
  match rnds g n.toNat (s0T g t.rnd t.seed t.A t.P)with
  | none=>(.zero,5)
  | some s=>(outT g s,0)
theorem lst_zero {g:Gm} (hW:Wg g) {L:List (List Int)} {least:Int} (h:lstE g L least=0):L.length=g.is.length∧∀ i,i<g.is.length->lenL L i=g.acts i∧∀ x∈L.getD i [],least≤x∧x≤70368744177664:=by
 unfold lstE at h
 by_cases hl:L.length=g.is.length
 · rw[if_neg (by simpa using hl),fstE_zero]at h
   refine⟨hl,fun i hi => ?_⟩
   have hr:=h i (Nat.zero_le _) (by omega)
   have hgi:g.is.getD i (0,0)=g.is[i]:=by simp[hi]
   have hac:=acts_le hW hi
   have ha:(g.acts i:Int)=g.is[i].2:=by unfold Gm.acts at hac ⊢; rw[hgi]at hac ⊢; omega
   unfold rowE at hr
   rw[hgi]at hr
   by_cases h1:((lenL L i:Nat):Int)=g.is[i].2
   · rw[if_neg (by simpa using h1)]at hr
     refine⟨by omega,fun x hx => ?_⟩
     split at hr
     · cases hr
     · rename_i h2
       simp only[List.any_eq_true,not_exists,not_and,Bool.or_eq_true,decide_eq_true_eq]at h2
       have:=h2 x hx
       omega
   · rw[if_pos h1]at hr; cases hr
 · rw[if_pos hl]at h; cases h
theorem chk_zero {g:Gm} {t:Tin} (h:chkS g t=0):Wg g∧0≤t.rnd∧t.rnd≤1000000∧lstE g t.A (-70368744177664)=0∧lstE g t.P 0=0:=by
 unfold chkS at h
 by_cases hp:g.prpE=0
 · rw[if_neg (by simpa using hp)]at h
   unfold valE at h
   split at h
   · cases h
   · split at h
     · rename_i h1 h2; exact absurd h h2
     · rename_i h1 h2
       exact⟨prp_form hp,by omega,by omega,by simpa using h2,h⟩
 · rw[if_pos hp]at h; exact absurd h hp
theorem s0_ok {g:Gm} {t:Tin} (h:chkS g t=0):okTS g (s0T g t.rnd t.seed t.A t.P):=by
 obtain⟨hW,h1,h2,h3,h4⟩:=chk_zero h
 obtain⟨a1,a2⟩:=lst_zero hW h3
 obtain⟨p1,p2⟩:=lst_zero hW h4
 intro i hi a ha
 have la:a<(t.A.getD i []).length:=by have:=(a2 i hi).1; unfold lenL at this; omega
 have lp:a<(t.P.getD i []).length:=by have:=(p2 i hi).1; unfold lenL at this; omega
 have e1:(t.A.getD i []).getD a 0=(t.A.getD i [])[a]:=by rw[List.getD_eq_getElem?_getD,List.getElem?_eq_getElem la]; rfl
 have e2:(t.P.getD i []).getD a 0=(t.P.getD i [])[a]:=by rw[List.getD_eq_getElem?_getD,List.getElem?_eq_getElem lp]; rfl
 have q1:=(a2 i hi).2 _ (List.getElem_mem la)
 have q2:=(p2 i hi).2 _ (List.getElem_mem lp)
 unfold okAt
 simp only[s0T,e1,e2]
 omega
section
variable {H G:List AO}
theorem fz_rowG {p:Nat} (hp:H.length≤p) {l:List Int} {T:TypeId} {v:Nat} (h:G[p]? = some ⟨ints l,T,v,true⟩) (d:Nat):SV.fz H.length [] (G.drop H.length) (d+2) (.own p 0 l.length 1 v)=sl l:=by
 have hg:(G.drop H.length)[p-H.length]? = some ⟨ints l,T,v,true⟩:=by rw[List.getElem?_drop,show H.length+(p-H.length)=p by omega]; exact h
 unfold SV.fz
 rw[if_neg (by simp[SV.under]; omega)]
 simp only[hg,placeOf]
 simp[sl]
theorem fz_outs {g:Gm} {p:Nat} (hp:H.length≤p) {q:Nat->Nat} {n:Nat->Nat} {A:Nat->List Int} {v w:Nat} {T:TypeId} (h:G[p]? = some ⟨outs g.is.length q n v,T,w,true⟩)
 (hq:∀ i,i<g.is.length->H.length≤q i∧G[q i]? = some ⟨ints (A i),3,v,true⟩∧(A i).length=n i) (d:Nat) :
 SV.fz H.length [] (G.drop H.length) (d+3) (.own p 0 g.is.length 1 w)=.slc (sls ((List.range g.is.length).map A)) g.is.length:=by
 have hg:(G.drop H.length)[p-H.length]? = some ⟨outs g.is.length q n v,T,w,true⟩:=by rw[List.getElem?_drop,show H.length+(p-H.length)=p by omega]; exact h
 unfold SV.fz
 rw[if_neg (by simp[SV.under]; omega)]
 simp only[hg,placeOf]
 simp only[outs_len,Nat.mul_one,Nat.zero_add,Nat.le_refl,and_self,if_true,List.drop_zero]
 congr 1
 have e:List.take g.is.length (outs g.is.length q n v)=outs g.is.length q n v:=List.take_of_length_le (by simp)
 rw[e]
 simp only[outs,sls,List.map_map]
 apply List.map_congr_left
 intro i hi
 simp only[List.mem_range]at hi
 obtain⟨q1,q2,q3⟩:=hq i hi
 simp only[Function.comp_apply]
 rw[←q3]
 exact fz_rowG q1 q2 d
end
end Go.Proofs.Ytogjmpkehjfecaa.Rc
namespace Go.Proofs.Ytogjmpkehjfecaa.Rc
open Go.Ab Go.Ab.Shr
section
variable {H:List AO} {g:Gm}
def hb8 (H:List AO) (g:Gm) (t:Tin):List AO:=H++[gbox g,⟨t.cells,28,0,true⟩,zT,eT 0]
@[simp] theorem hb8_len (t:Tin):(hb8 H g t).length=H.length+4:=by simp[hb8]
theorem hb8_low {t:Tin} {i:Nat} (h:i<H.length):(hb8 H g t)[i]? = H[i]? := by unfold hb8; rw[List.getElem?_append_left h]
theorem hb8_at {t:Tin} (k:Nat):(hb8 H g t)[H.length+k]? = [gbox g,⟨t.cells,28,0,true⟩,zT,eT 0][k]? := by
 unfold hb8; rw[List.getElem?_append_right (by omega)]; congr 1; omega
theorem hb8_closed {t:Tin} (hcl:closed H):closed (hb8 H g t):=by
 intro i o ho s hs
 rw[hb8_len]
 by_cases hi:i<H.length
 · rw[hb8_low hi]at ho
   exact SV.under_mono (by omega) s (hcl i o ho s hs)
 · obtain⟨k,rfl⟩:∃ k,i=H.length+k:=⟨i-H.length,by omega⟩
   rw[hb8_at]at ho
   have hm:=List.mem_of_getElem? ho
   simp only[List.mem_cons,List.not_mem_nil,or_false]at hm
   have:SV.underL (H.length+4) o.cells=true:=by
    rcases hm with rfl | rfl | rfl | rfl
    · simp[gbox,nds_under,infs_under]
    · simp[Tin.cells,sls_under]
    · simp[zT]
    · simp[eT]
   exact(SV.underL_iff _ _).1 this s hs
set_option maxRecDepth 10000 in
theorem tlp8_0 (hW:Wg g) {B:List AO} {x6 x7:SV} {nn:Nat} (hn:nn≤20000) {s0:TS} {N:Nat} {K:XE->Env->List AO->Prop}
 (hpan:rnds g nn s0=none->∀ env G s,TW g B (cTC g) s G->env.get 6=x6->env.get 7=x7->K (.panic panV) env G)
 (hexit:∀ s,rnds g nn s0=some s->∀ env G,TW g B (cTC g) s G->env.get 6=x6->env.get 7=x7->env.get 9=.ptr (.own (pW B g) 0 0 0 0) 0->K (.exit 0) env G) :
 ∀ (m j:Nat) (env:Env) (G:List AO) (s:TS),j+m=nn->okTS g s->rnds g m s=rnds g nn s0->TW g B (cTC g) s G->env.get 6=x6->env.get 7=x7->env.get 9=.ptr (.own (pW B g) 0 0 0 0) 0->env.get 45=i64 nn->env.get 46=i64 j →
  LI Try.prog N drawB l8_0 env G K:=by
 intro m
 induction m with
 | zero =>
  intro j env G s hj hk hr h h6 h7 h9 h45 h46
  refine li_go hm l8_0.eq_1 ?_
  have e:j=nn:=by omega
  subst e
  simp -implicitDefEqProofs[h45,h46]
  exact hexit s hr.symm _ _ h (by simp[h6]) (by simp[h7]) (by simp[h9])
 | succ m ih =>
  intro j env G s hj hk hr h h6 h7 h9 h45 h46
  refine li_go hm l8_0.eq_1 ?_
  have hjn:j<nn:=by omega
  have w1:=wrap_suc (show j<9223372036854775807 by omega)
  simp -implicitDefEqProofs[h9,h45,h46,hjn]
  refine call_goP (ok30 hW (cTC_ok hW) h hk) fun out G' hP => ?_
  obtain⟨h2,⟨hk2,rfl⟩ | ⟨hk2,rfl⟩⟩:=hP
  · simp -implicitDefEqProofs[h6,h7,h9,h45,h46]
    refine ih (j+1) _ _ _ (by omega) hk2 ?_ h2 ?_ ?_ ?_ ?_ ?_
    · rw[←hr]; simp[rnds,okB_iff.2 hk2]
    · simp[h6]
    · simp[h7]
    · simp
    · simp
    · simp[w1]
  · simp -implicitDefEqProofs
    refine hpan ?_ _ _ _ h2 (by simp[h6]) (by simp[h7])
    rw[←hr]
    have:¬ okB g (rndT g (cTC g) s)=true:=fun hb=>hk2 (okB_iff.1 hb)
    simp[rnds,this]
theorem fin8e {t:Tin} {n:Int} (hcl:closed H) (he:runR g t n=(.zero,5)) {s:TS} {G:List AO} {env:Env} (h:TW g (hb8 H g t) (cTC g) s G) (h6:env.get 6=rpt (H.length+2)) (h7:env.get 7=rpt (H.length+3)) :
 FinD Try.prog H.length r8 (fun o h=>o=.ret (.tup [.agg (runR g t n).1.cells,i64 (runR g t n).2])∧h=H) 27 [rpt (H.length+2),rpt (H.length+3)] (.panic panV) env G:=by
 have g2:G[H.length+2]? = some ⟨[i64 0,i64 0,nl,nl],28,0,true⟩:=by rw[h.low _ (by simp),hb8_at]; rfl
 have g3:G[H.length+3]? = some ⟨[i64 0],31,0,true⟩:=by rw[h.low _ (by simp),hb8_at]; rfl
 refine⟨_,okD27e g2 rfl g3 rfl (by omega),?_⟩
 rintro H4 rfl
 have l2:=getElem?_lt g2
 have l3:=getElem?_lt g3
 have e2:objCells ((G.set (H.length+2) zT).set (H.length+3) (eT 5)) (H.length+2) 0=[i64 0,i64 0,nl,nl]:=oc0 (T:=28) (by rw[List.getElem?_set_ne (by omega),List.getElem?_set_self l2]; rfl)
 have e3:objCells ((G.set (H.length+2) zT).set (H.length+3) (eT 5)) (H.length+3) 0=[i64 5]:=oc0 (T:=31) (by rw[List.getElem?_set_self (by simpa using l3)]; rfl)
 obtain⟨L,hL⟩:∃ L,(G.set (H.length+2) zT).set (H.length+3) (eT 5)=H++L:=by
  refine⟨((G.set (H.length+2) zT).set (H.length+3) (eT 5)).drop H.length,?_⟩
  apply List.ext_getElem?
  intro i
  by_cases hi:i<H.length
  · rw[List.getElem?_set_ne (by omega),List.getElem?_set_ne (by omega),h.low i (by simp; omega),hb8_low hi,List.getElem?_append_left hi]
  · rw[List.getElem?_append_right (by omega),List.getElem?_drop]
    congr 1; omega
 refine⟨?_,_,H,⟨rfl,rfl⟩,?_⟩
 · intro s hs
   simp only[r8,List.mem_cons,List.not_mem_nil,or_false]at hs
   rcases hs with rfl | rfl
   · simp[RS.side,h6,rpt,e2]
   · simp[RS.side,h7,rpt,e3]
 · have hr:resV env ((G.set (H.length+2) zT).set (H.length+3) (eT 5)) r8=.tup [.agg [i64 0,i64 0,nl,nl],i64 5]:=by
    simp[resV,r8,RS.ev,h6,h7,rpt,e2,e3]
   rw[hr,hL,he]
   refine Cv.le (cv_fz (r:=.tup [.agg [i64 0,i64 0,nl,nl],i64 5]) 3 hcl rfl (fz_under rfl)) ?_
   refine le_tup (leL.cons (le_agg (leL.cons (SV.le.refl _) (leL.cons (SV.le.refl _) (leL.cons le_nil (leL.cons le_nil leL.nil))))) (leL.refl _))
end
end Go.Proofs.Ytogjmpkehjfecaa.Rc
namespace Go.Proofs.Ytogjmpkehjfecaa.Rc
open Go.Ab Go.Ab.Shr
section
variable {H:List AO} {g:Gm}
theorem zero_le (e:Int):SV.le (.tup [.agg [i64 0,i64 0,nl,nl],i64 e]) (.tup [.agg Tin.zero.cells,i64 e]) :=
 le_tup (leL.cons (le_agg (leL.cons (SV.le.refl _) (leL.cons (SV.le.refl _) (leL.cons le_nil (leL.cons le_nil leL.nil))))) (leL.refl _))
theorem cv_zero (hcl:closed H) (e:Int) (L:List AO):Cv H.length (.tup [.agg [i64 0,i64 0,nl,nl],i64 e]) (H++L) (.tup [.agg Tin.zero.cells,i64 e]) H :=
 Cv.le (cv_fz (r:=.tup [.agg [i64 0,i64 0,nl,nl],i64 e]) 3 hcl rfl (fz_under rfl)) (zero_le e)
theorem fin8r {t:Tin} {n:Int} (hcl:closed H) {s:TS} (he:runR g t n=(outT g s,0)) {G:List AO} {env:Env} (h:TW g (hb8 H g t) (cTC g) s G) (h6:env.get 6=rpt (H.length+2)) (h7:env.get 7=rpt (H.length+3)) :
 FinD Try.prog H.length r8 (fun o h=>o=.ret (.tup [.agg (runR g t n).1.cells,i64 (runR g t n).2])∧h=H) 27 [rpt (H.length+2),rpt (H.length+3)] .ret env
  ((G.set (H.length+2) ⟨[i64 s.rnd,i64 s.seed,.own (pAo (hb8 H g t) g) 0 g.is.length 1 0,.own (pPo (hb8 H g t) g) 0 g.is.length 1 0],28,0,true⟩).set (H.length+3) (eT 0)):=by
 have g2:G[H.length+2]? = some ⟨[i64 0,i64 0,nl,nl],28,0,true⟩:=by rw[h.low _ (by simp),hb8_at]; rfl
 have g3:G[H.length+3]? = some ⟨[i64 0],31,0,true⟩:=by rw[h.low _ (by simp),hb8_at]; rfl
 have l2:=getElem?_lt g2
 have l3:=getElem?_lt g3
 refine⟨_,okD27n (by simpa using l2) (by simpa using l3),?_⟩
 rintro H4 rfl
 generalize hG2:(G.set (H.length+2) ⟨[i64 s.rnd,i64 s.seed,.own (pAo (hb8 H g t) g) 0 g.is.length 1 0,.own (pPo (hb8 H g t) g) 0 g.is.length 1 0],28,0,true⟩).set (H.length+3) (eT 0)=G2
 have e2:objCells G2 (H.length+2) 0=[i64 s.rnd,i64 s.seed,.own (pAo (hb8 H g t) g) 0 g.is.length 1 0,.own (pPo (hb8 H g t) g) 0 g.is.length 1 0]:=oc0 (T:=28) (by rw[←hG2,List.getElem?_set_ne (by omega),List.getElem?_set_self l2])
 have e3:objCells G2 (H.length+3) 0=[i64 0]:=oc0 (T:=31) (by rw[←hG2,List.getElem?_set_self (by simpa using l3)]; rfl)
 have up:∀ i,H.length+4≤i->G2[i]? = G[i]? := fun i hi=>by rw[←hG2,List.getElem?_set_ne (by omega),List.getElem?_set_ne (by omega)]
 have hL:G2=H++G2.drop H.length:=by
  apply List.ext_getElem?
  intro i
  by_cases hi:i<H.length
  · rw[List.getElem?_append_left hi,<- hG2,List.getElem?_set_ne (by omega),List.getElem?_set_ne (by omega),h.low i (by simp; omega),hb8_low hi]
  · rw[List.getElem?_append_right (by omega),List.getElem?_drop]
    congr 1; omega
 refine⟨?_,_,H,⟨rfl,rfl⟩,?_⟩
 · intro s hs
   simp only[r8,List.mem_cons,List.not_mem_nil,or_false]at hs
   rcases hs with rfl | rfl
   · simp[RS.side,h6,rpt,e2]
   · simp[RS.side,h7,rpt,e3]
 · have hr:resV env G2 r8=.tup [.agg [i64 s.rnd,i64 s.seed,.own (pAo (hb8 H g t) g) 0 g.is.length 1 0,.own (pPo (hb8 H g t) g) 0 g.is.length 1 0],i64 0]:=by
    simp[resV,r8,RS.ev,h6,h7,rpt,e2,e3]
   rw[hr,he]
   have hA:=fz_outs (H:=H) (G:=G2) (g:=g) (p:=pAo (hb8 H g t) g) (by unfold pAo; simp) (A:=s.A) (by rw[up _ (by unfold pAo; simp)]; exact h.ao) (fun i hi=>⟨by unfold pA; simp; omega,by rw[up _ (by unfold pA; simp; omega)]; exact h.a i hi,h.l.A i hi⟩) 1
   have hP:=fz_outs (H:=H) (G:=G2) (g:=g) (p:=pPo (hb8 H g t) g) (by unfold pPo; simp; omega) (A:=s.P) (by rw[up _ (by unfold pPo; simp; omega)]; exact h.po) (fun i hi=>⟨by unfold pP; simp; omega,by rw[up _ (by unfold pP; simp; omega)]; exact h.p i hi,h.l.P i hi⟩) 1
   have hfz:SV.fz H.length [] (G2.drop H.length) 6 (.tup [.agg [i64 s.rnd,i64 s.seed,.own (pAo (hb8 H g t) g) 0 g.is.length 1 0,.own (pPo (hb8 H g t) g) 0 g.is.length 1 0],i64 0])=.tup [.agg (outT g s).cells,i64 0]:=by
    rw[fz_tup]
    simp only[List.map_cons,List.map_nil,fz_i64]
    rw[fz_agg]
    simp only[List.map_cons,List.map_nil,fz_i64]
    rw[hA,hP]
    simp[outT,Tin.cells]
   have:=cv_fz (n0:=H.length) (H:=H) (L:=G2.drop H.length) 6 hcl rfl hfz
   rw[←hL]at this
   exact this
theorem ok8 (t:Tin) (n:Int) (hn : -9223372036854775808≤n∧n≤9223372036854775807):Ok Try.prog 8 [.agg g.cells,.agg t.cells,i64 n] H (.ret (.tup [.agg (runR g t n).1.cells,i64 (runR g t n).2])) H:=by
 refine OkP.toOk (okP_ds hm Try.func8 c8 (by rfl) fun hcl => ?_)
 have h16:=fun H=>ok16 (H:=H) (g:=g) (t:=t)
 simp only[Gm.cells,Tin.cells]at h16
 simp -implicitDefEqProofs[XL,i8p,i8a0,i8a1,i8a2,Gm.cells,Tin.cells]
 refine call_go (h16 _) ?_
 by_cases hc:chkS g t=0
 · obtain⟨hW,r1,r2,r3,r4⟩:=chk_zero hc
   by_cases hb:n<0∨20000<n∨1000000<t.rnd+n
   · have e:runR g t n=(.zero,2):=by unfold runR; rw[if_neg (by simpa using hc),if_pos hb]
     have fin:FinQ H.length (fun o h=>o=.ret (.tup [.agg (runR g t n).1.cells,i64 (runR g t n).2])∧h=H) (.tup [.agg [i64 0,i64 0,nl,nl],i64 2]) (H++[⟨[i64 g.pl,.slc (nds g.ns) g.ns.length,.slc (infs g.is) g.is.length],25,0,true⟩,⟨[i64 t.rnd,i64 t.seed,.slc (sls t.A) t.A.length,.slc (sls t.P) t.P.length],28,0,true⟩,⟨[i64 0,i64 0,nl,nl],28,0,true⟩,⟨[i64 2],31,0,true⟩]):=by
      rw[e]
      exact⟨_,_,⟨rfl,rfl⟩,cv_zero hcl _ _⟩
     by_cases b1:n<0
     · simp -implicitDefEqProofs[hc,XL,FinE,r8,b1]
       exact⟨rfl,fin⟩
     · by_cases b2:20000<n
       · simp -implicitDefEqProofs[hc,XL,FinE,r8,b1,b2]
         exact⟨rfl,fin⟩
       · have b3:1000000<t.rnd+n:=by omega
         have w1:IntKind.i64.wrap (t.rnd+n)=t.rnd+n:=wrap_id (by omega) (by omega)
         simp -implicitDefEqProofs[hc,XL,FinE,r8,b1,b2,w1,b3]
         exact⟨rfl,fin⟩
   · have b1:¬ n<0:=by omega
     have b2:¬ 20000<n:=by omega
     have b3:¬ 1000000<t.rnd+n:=by omega
     have w1:IntKind.i64.wrap (t.rnd+n)=t.rnd+n:=wrap_id (by omega) (by omega)
     obtain⟨a1,a2⟩:=lst_zero hW r3
     obtain⟨p1,p2⟩:=lst_zero hW r4
     have hil:=hW.gd.i
     have rw_ok:∀ (L:List (List Int)),L.length=g.is.length->(∀ i,i<g.is.length->lenL L i=g.acts i)->∀ l∈L,l≠[]∧l.length≤1000000:=fun L hL hl l hm=>by
      obtain⟨k,hk,rfl⟩:=List.getElem_of_mem hm
      have h1:=hl k (by omega)
      rw[lenL_at hk]at h1
      have h2:=acts_le hW (show k<g.is.length by omega)
      exact⟨fun e=>by rw[e]at h1; simp at h1; omega,by omega⟩
     have hA:=rw_ok t.A a1 fun i hi=>(a2 i hi).1
     have hP:=rw_ok t.P p1 fun i hi=>(p2 i hi).1
     simp -implicitDefEqProofs[hc,XL,FinE,r8,b1,b2,w1,b3,i8s,i8f,i8]
     refine⟨27,_,⟨rfl,rfl⟩,call_go (ok29 hA (by omega)) ?_⟩
     simp -implicitDefEqProofs
     refine call_go (ok29 hP (by omega)) ?_
     simp -implicitDefEqProofs[a1,p1]
     have h28:=ok28 (H:=hb8 H g t) (rnd:=t.rnd) (seed:=t.seed) hW (hb8_closed hcl) a1 p1 (fun i hi=>(a2 i hi).1) (fun i hi=>(p2 i hi).1)
     have q1:H.length+(g.is.length+1+1+1+1+1)=(hb8 H g t).length+1+g.is.length:=by simp; omega
     have q2:(fun i=>H.length+(g.is.length+1+1+1+1+1+1)+i)=fun i=>(hb8 H g t).length+1+t.A.length+1+i:=by funext i; simp; omega
     have q3:(fun i=>H.length+5+i)=fun i=>(hb8 H g t).length+1+i:=by funext i; simp
     have q4:H.length+4=(hb8 H g t).length:=by simp
     have hHeap:(H ++
     ⟨[i64 g.pl,.slc (nds g.ns) g.ns.length,.slc (infs g.is) g.is.length],25,0,true⟩ ::
      ⟨[i64 t.rnd,i64 t.seed,.slc (sls t.A) g.is.length,.slc (sls t.P) g.is.length],28,0,true⟩ ::
       ⟨[i64 0,i64 0,.val (.slice none 0 0),.val (.slice none 0 0)],28,0,true⟩ ::
        ⟨[i64 0],31,0,true⟩ ::
         ⟨outs g.is.length (fun i=>H.length+5+i) (lenL t.A) 1,36,0,true⟩ ::
          (List.map (rowO 1) t.A ++
           ⟨outs g.is.length (fun i=>H.length+(g.is.length+1+1+1+1+1+1)+i) (lenL t.P) 1,36,0,true⟩ ::
            List.map (rowO 1) t.P))=baseT (hb8 H g t) t.A t.P:=by
      rw[q2,q3]
      unfold baseT
      rw[a1,p1]
      simp only[hb8,gbox,zT,eT,Tin.cells,List.append_assoc,List.cons_append,List.nil_append,a1,p1]
     rw[hHeap,q1,q4]
     simp only[Gm.cells]at h28
     refine call_goP h28 fun out G1 hP => ?_
     obtain⟨rfl,h⟩:=hP
     have hgb:objCells G1 H.length 0=[i64 g.pl,.slc (nds g.ns) g.ns.length,.slc (infs g.is) g.is.length]:=oc0 (T:=25) (by rw[h.low _ (by simp)]; have:=hb8_at (H:=H) (g:=g) (t:=t) 0; rw[Nat.add_zero]at this; rw[this]; rfl)
     have htb:objCells G1 (H.length+1) 0=t.cells:=oc0 (T:=28) (by rw[h.low _ (by simp),hb8_at]; rfl)
     simp only[Tin.cells]at htb
     have hrun:∀ o,rnds g n.toNat (s0T g t.rnd t.seed t.A t.P)=o->runR g t n=(match o with | none=>(.zero,5) | some s=>(outT g s,0)):=fun o ho=>by
      unfold runR
      rw[if_neg (by simpa using hc),if_neg hb,ho]
      all_goals (cases o<;>rfl)
     simp -implicitDefEqProofs[hgb,htb]
     have hnn:((n.toNat:Nat):Int)=n:=by omega
     refine tlp8_0 (nn:=n.toNat) hW (x6:=rpt (H.length+2)) (x7:=rpt (H.length+3)) (by omega) (fun hr env G s hG g6 g7 => ?_) (fun s hr env G hG g6 g7 g9 => ?_) n.toNat 0 _ _ _ (by omega) (s0_ok hc) rfl h (by simp) (by simp) (by simp) (by simp[hnn]) (by simp)
     · exact fin8e hcl (hrun _ hr) hG g6 g7
     · have hwc:=hG.cw0
       have k2:G[H.length+2]? = some ⟨[i64 0,i64 0,nl,nl],28,0,true⟩:=by rw[hG.low _ (by simp),hb8_at]; rfl
       have k3:G[H.length+3]? = some ⟨[i64 0],31,0,true⟩:=by rw[hG.low _ (by simp),hb8_at]; rfl
       have o2:=oc0 k2
       have s2:=setObj_some k2
       have k4:(G.set (H.length+2) ⟨[i64 s.rnd,i64 s.seed,.own (pAo (hb8 H g t) g) 0 g.is.length 1 0,.own (pPo (hb8 H g t) g) 0 g.is.length 1 0],28,0,true⟩)[H.length+3]? = some ⟨[i64 0],31,0,true⟩:=by rw[List.getElem?_set_ne (by omega)]; exact k3
       have o3:=oc0 k4
       have s3:=setObj_some k4
       simp -implicitDefEqProofs[g6,g7,g9,hwc,wHead,o2,s2,o3,s3]
       exact fin8r hcl (hrun _ hr) hG (by simp[g6]) (by simp[g7])
 · have e:runR g t n=(.zero,chkS g t):=by unfold runR; rw[if_pos hc]
   simp -implicitDefEqProofs[hc,XL,FinE,r8]
   rw[e]
   exact⟨rfl,_,_,⟨rfl,rfl⟩,cv_zero hcl _ _⟩
end
end Go.Proofs.Ytogjmpkehjfecaa.Rc
