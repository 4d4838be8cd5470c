/-
  Steps of the proof: contracts of functions and plain facts that the statement rests on.
-/
import Derived.Test.YtogjmpkehjfecaaGreatDoorPart2
set_option linter.all false
namespace Go.Proofs.YtogjmpkehjfecaaGreatDoor.Rc
open Go.Ab
def gi (l:List Int) (i:Nat):Int:=l.getD i 0
structure Nf (ns:List Nd) (s:W3) (i:Nat) (x:Nd):Prop where
 ch:∀ j∈x.nx,(i:Int)<j∧j<ns.length∧gi s.P j.toNat=i∧gi s.D j.toNat=gi s.D i+1
 inc:x.nx.Pairwise (· < ·)
 la:gi s.L i=match x.nx.getLast? with | none=>(i:Int) | some j=>gi s.L j.toNat
def Fr (s t:W3) (a b:Nat):Prop:=∀ i,(i<a∨b≤i)->gi t.P i=gi s.P i∧gi t.D i=gi s.D i∧gi t.L i=gi s.L i
structure Kf (ns:List Nd) (at':Nat) (dep:Int) (l:List Int) (r0 r:Nat) (s t:W3):Prop where
 nf:∀ i x,r0≤i->i<r->ns[i]? = some x->Nf ns t i x
 pf:∀ i,r0≤i->i<r->((i:Int)∈l∧gi t.P i=at')∨(∃ (p:Nat) (x:Nd),gi t.P i=p∧r0≤p∧p<i∧ns[p]? = some x∧(i:Int)∈x.nx)
 ch:∀ j∈l,(r0:Int)≤j∧j<r∧gi t.P j.toNat=at'∧gi t.D j.toNat=dep+1
 inc:l.Pairwise (· < ·)
 nil:l=[]->r=r0
 la:∀ j,l.getLast? = some j->gi t.L j.toNat=(r:Int)-1
 fr:Fr s t r0 r
structure Wf (ns:List Nd) (par dep:Int) (k r:Nat) (s t:W3):Prop where
 nf:∀ i x,k≤i->i<r->ns[i]? = some x->Nf ns t i x
 pf:∀ i,k<i->i<r->∃ (p:Nat) (x:Nd),gi t.P i=p∧k≤p∧p<i∧ns[p]? = some x∧(i:Int)∈x.nx
 p:gi t.P k=par
 d:gi t.D k=dep
 l:gi t.L k=(r:Int)-1
 fr:Fr s t k r
theorem Fr.trans {s t u:W3} {a b c d:Nat} (h:Fr s t a b) (h':Fr t u c d) (h1:a≤c) (h2:b≤d):Fr s u a d:=by
 intro i hi
 have e1:=h i (by omega)
 have e2:=h' i (by omega)
 exact⟨e2.1.trans e1.1,e2.2.1.trans e1.2.1,e2.2.2.trans e1.2.2⟩
theorem Nf.keep {ns:List Nd} {s t:W3} {i a b:Nat} {x:Nd} (h:Nf ns s i x) (hf:Fr s t a b) (hi:i<a) (hx:∀ j∈x.nx,j<a):Nf ns t i x:=by
 have hn:∀ j∈x.nx,j.toNat<a:=fun j hj=>by have:=hx j hj; have:=(h.ch j hj).1; omega
 refine⟨fun j hj => ?_,h.inc,?_⟩
 · have h1:=h.ch j hj
   have h2:=hf j.toNat (.inl (hn j hj))
   have h3:=hf i (.inl hi)
   exact⟨h1.1,h1.2.1,h2.1.trans h1.2.2.1,by rw[h2.2.1,h3.2.1]; exact h1.2.2.2⟩
 · rw[(hf i (.inl hi)).2.2,h.la]
   cases hl:x.nx.getLast? with
   | none=>rfl
   | some j=>exact(hf j.toNat (.inl (hn j (List.mem_of_getLast? hl)))).2.2.symm
theorem kids_facts {ns:List Nd} {at':Nat} {dep:Int} {w:Nat->W3->Option Nat×W3} (hok:∀ r s,s.ok ns.length->(w r s).2.ok ns.length∧∀ r',(w r s).1=some r'->r<r'∧r'≤ns.length)
 (hw:∀ r s r',s.ok ns.length->(w r s).1=some r'->Wf ns at' (dep+1) r r' s (w r s).2∧(∀ i x,r≤i->i<r'->ns[i]? = some x->∀ j∈x.nx,j<r')) :
 ∀ (l:List Int) (r0:Nat) (s:W3) (r:Nat),s.ok ns.length->(kids w l r0 s).1=some r->Kf ns at' dep l r0 r s (kids w l r0 s).2∧r0≤r∧(∀ i x,r0≤i->i<r->ns[i]? = some x->∀ j∈x.nx,j<r)
 | [],r0,s,r,hs,h=>by
  simp only[kids,Option.some.injEq]at h
  subst h
  exact⟨⟨fun i x h1 h2=>by omega,fun i h1 h2=>by omega,fun j hj=>by simp at hj,.nil,fun _=>rfl,fun j hj=>by simp at hj,fun i _=>⟨rfl,rfl,rfl⟩⟩,Nat.le_refl _,fun i x h1 h2=>by omega⟩
 | c::cs,r0,s,r,hs,h=>by
  unfold kids at h ⊢
  by_cases hc:c=r0
  · rw[if_pos hc]at h ⊢
    have hk:=hok r0 s hs
    have hf:=hw r0 s
    cases hh:w r0 s with
    | mk o s1 =>
     rw[hh]at h hk hf
     cases o with
     | none=>simp at h
     | some r1 =>
      simp only at h ⊢
      obtain⟨f1,f1b⟩:=hf r1 hs rfl
      have b1:=hk.2 r1 rfl
      obtain⟨f2,f2l,f2b⟩:=kids_facts hok hw cs r1 s1 r hk.1 h
      generalize (kids w cs r1 s1).2=t at f2
      refine⟨⟨fun i x h1 h2 hx => ?_,fun i h1 h2 => ?_,fun j hj => ?_,?_,(fun e=>by cases e),fun j hj => ?_,?_⟩,by omega,fun i x h1 h2 hx j hj => ?_⟩
      · by_cases hi:i<r1
        · exact(f1.nf i x h1 hi hx).keep f2.fr hi (f1b i x h1 hi hx)
        · exact f2.nf i x (by omega) h2 hx
      · by_cases hi:i<r1
        · by_cases he:i=r0
          · subst he
            exact .inl ⟨by rw[hc]; exact List.mem_cons_self,by rw[(f2.fr i (.inl hi)).1]; exact f1.p⟩
          · obtain⟨p,x,k1,k2,k3,k4,k5⟩:=f1.pf i (by omega) hi
            exact .inr ⟨p,x,by rw[(f2.fr i (.inl hi)).1]; exact k1,k2,k3,k4,k5⟩
        · rcases f2.pf i (by omega) h2 with ⟨k1,k2⟩ | ⟨p,x,k1,k2,k3,k4,k5⟩
          · exact .inl ⟨List.mem_cons_of_mem _ k1,k2⟩
          · exact .inr ⟨p,x,k1,by omega,k3,k4,k5⟩
      · rcases List.mem_cons.1 hj with rfl | hj
        · have e:j.toNat=r0:=by omega
          refine⟨by omega,by omega,?_,?_⟩
          · rw[e,(f2.fr r0 (.inl b1.1)).1]; exact f1.p
          · rw[e,(f2.fr r0 (.inl b1.1)).2.1]; exact f1.d
        · have:=f2.ch j hj
          exact⟨by omega,this.2.1,this.2.2⟩
      · refine .cons (fun j hj => ?_) f2.inc
        have:=(f2.ch j hj).1
        omega
      · cases cs with
        | nil =>
         simp only[List.getLast?_singleton,Option.some.injEq]at hj
         subst hj
         have hr:=f2.nil rfl
         have e:c.toNat=r0:=by omega
         rw[e,(f2.fr r0 (.inl b1.1)).2.2,f1.l,hr]
        | cons c' cs' =>
         rw[List.getLast?_cons_cons]at hj
         exact f2.la j hj
      · exact f1.fr.trans f2.fr (by omega) (by omega)
      · by_cases hi:i<r1
        · have:=f1b i x h1 hi hx j hj; omega
        · exact f2b i x (by omega) h2 hx j hj
  · rw[if_neg hc]at h
    simp at h
theorem gi_set_ne {l:List Int} {i k:Nat} {v:Int} (h:i≠k):gi (l.set k v) i=gi l i:=getD_set_ne h
theorem gi_set_eq {l:List Int} {k:Nat} {v:Int} (h:k<l.length):gi (l.set k v) k=v:=getD_set_eq h
theorem walk_facts {ns:List Nd}:∀ (f:Nat) (par dep:Int) (k:Nat) (s:W3) (r:Nat),s.ok ns.length->(walkS ns f par dep k s).1=some r →
 Wf ns par dep k r s (walkS ns f par dep k s).2∧(∀ i x,k≤i->i<r->ns[i]? = some x->∀ j∈x.nx,j<r)
 | 0,par,dep,k,s,r,hs,h=>by simp[walkS]at h
 | f+1,par,dep,k,s,r,hs,h=>by
  unfold walkS at h ⊢
  cases hk:ns[k]? with
  | none=>rw[hk]at h; simp at h
  | some x =>
   rw[hk]at h
   have hlt:=getElem?_lt hk
   have hs':W3.ok ⟨s.P.set k par,s.D.set k dep,s.L⟩ ns.length:=⟨by simpa using hs.1,by simpa using hs.2.1,hs.2.2⟩
   have hkf:=kids_facts (ns:=ns) (at':=k) (dep:=dep) (w:=walkS ns f k (dep+1)) (fun r s hs=>walkS_ok f k (dep+1) r s hs) (fun r s r' hs h=>walk_facts f k (dep+1) r s r' hs h) x.nx (k+1) ⟨s.P.set k par,s.D.set k dep,s.L⟩
   have hko:=kids_ok (n:=ns.length) (w:=walkS ns f k (dep+1)) (m:=0) (fun r s _ hs=>walkS_ok f k (dep+1) r s hs) x.nx (k+1) ⟨s.P.set k par,s.D.set k dep,s.L⟩ (by omega) (by omega) hs'
   simp only at h ⊢
   cases hh:kids (walkS ns f k (dep+1)) x.nx (k+1) ⟨s.P.set k par,s.D.set k dep,s.L⟩with
   | mk o s1 =>
    rw[hh]at h hkf hko
    cases o with
    | none=>simp at h
    | some r1 =>
     simp only[Option.some.injEq]at h
     subst h
     obtain⟨kf,kle,kb⟩:=hkf r1 hs' rfl
     have hL:s1.L.length=ns.length:=hko.1.2.2
     have hPk:gi s1.P k=par:=by rw[(kf.fr k (.inl (by omega))).1]; exact gi_set_eq (by have:=hs.1; omega)
     have hDk:gi s1.D k=dep:=by rw[(kf.fr k (.inl (by omega))).2.1]; exact gi_set_eq (by have:=hs.2.1; omega)
     have hLk:gi (s1.L.set k ((r1:Int)-1)) k=(r1:Int)-1:=gi_set_eq (by omega)
     have hLo:∀ i,i≠k->gi (s1.L.set k ((r1:Int)-1)) i=gi s1.L i:=fun i hi=>gi_set_ne hi
     have hb:∀ i y,k≤i->i<r1->ns[i]? = some y->∀ j∈y.nx,j<(r1:Int):=fun i y h1 h2 hy j hj=>by
      by_cases he:i=k
      · subst he
        rw[hk]at hy; cases hy
        exact(kf.ch j hj).2.1
      · exact kb i y (by omega) h2 hy j hj
     refine⟨⟨fun i y h1 h2 hy => ?_,fun i h1 h2 => ?_,hPk,hDk,hLk,?_⟩,hb⟩
     · by_cases he:i=k
       · subst he
         rw[hk]at hy; cases hy
         refine⟨fun j hj => ?_,kf.inc,?_⟩
         · have:=kf.ch j hj
           exact⟨by omega,by have:=this.2.1; have:=(hko.2 r1 rfl).2; omega,this.2.2.1,by rw[this.2.2.2]; show _=gi s1.D i+1; rw[hDk]⟩
         · show gi (s1.L.set i ((r1:Int)-1)) i=_
           rw[hLk]
           cases hl:x.nx.getLast? with
           | none =>
            have:x.nx=[]:=List.getLast?_eq_none_iff.1 hl
            have:=kf.nil this
            simp only; omega
           | some j =>
            have h3:=kf.ch j (List.mem_of_getLast? hl)
            show _=gi (s1.L.set i ((r1:Int)-1)) j.toNat
            rw[hLo j.toNat (by omega),kf.la j hl]
       · have hn:=kf.nf i y (by omega) h2 hy
         refine⟨hn.ch,hn.inc,?_⟩
         show gi (s1.L.set k ((r1:Int)-1)) i=_
         rw[hLo i he,hn.la]
         cases hl:y.nx.getLast? with
         | none=>rfl
         | some j =>
          have h3:=hn.ch j (List.mem_of_getLast? hl)
          show _=gi (s1.L.set k ((r1:Int)-1)) j.toNat
          rw[hLo j.toNat (by omega)]
     · rcases kf.pf i (by omega) h2 with ⟨k1,k2⟩ | ⟨p,y,k1,k2,k3,k4,k5⟩
       · exact⟨k,x,k2,Nat.le_refl _,h1,hk,k1⟩
       · exact⟨p,y,k1,by omega,k3,k4,k5⟩
     · intro i hi
       have h3:=kf.fr i (by omega)
       refine⟨?_,?_,?_⟩
       · show gi s1.P i=_; rw[h3.1]; exact gi_set_ne (by omega)
       · show gi s1.D i=_; rw[h3.2.1]; exact gi_set_ne (by omega)
       · show gi (s1.L.set k ((r1:Int)-1)) i=_; rw[hLo i (by omega)]; exact h3.2.2
end Go.Proofs.YtogjmpkehjfecaaGreatDoor.Rc
namespace Go.Proofs.YtogjmpkehjfecaaGreatDoor.Rc
open Go.Ab
section
variable {H:List AO} {g:Gm}
def Gm.out (g:Gm) (z v:SV):SV:=if g.formE=0 then .tup [v,i64 0]else .tup [z,i64 g.formE]
theorem walked_err (h:g.formE≠0):∃ p,g.walked=.tup [p,i64 g.formE]∧p.under 0=true:=by
 unfold Gm.walked Gm.formE at *
 by_cases h0:g.err0=0
 · have h1:¬ g.err0≠0:=by simpa using h0
   rw[if_neg h1]at h ⊢
   rw[if_neg h1]
   exact⟨_,rfl,by simp[Gm.wp,sl,SV.underL,nds_under,infs_under]⟩
 · have h1:g.err0≠0:=h0
   rw[if_pos h1,if_pos h1]
   exact⟨_,rfl,rfl⟩
theorem walked_ok (h:g.formE=0):g.walked=.tup [g.wp,i64 0]:=by
 unfold Gm.walked Gm.formE at *
 by_cases h0:g.err0=0
 · have h1:¬ g.err0≠0:=by simpa using h0
   rw[if_neg h1]at h ⊢
   rw[h]
 · have h1:g.err0≠0:=h0
   rw[if_pos h1]at h
   exact(h0 h).elim
end
end Go.Proofs.YtogjmpkehjfecaaGreatDoor.Rc
namespace Go.Proofs.YtogjmpkehjfecaaGreatDoor.Rc
open Go.Ab
structure Wg (g:Gm):Prop where
 gd:Gd g
 wk:g.wk.1=some g.ns.length
 mx:maxL g.wk.2.D≤40
 se:g.setsE=0
theorem nodesE_zero {g:Gm}:∀ {l:List Nd},nodesE g l=0->∀ x∈l,x.err g=0
 | [],_,x,hx=>by simp at hx
 | y::r,h,x,hx=>by
  unfold nodesE at h
  by_cases hy:y.err g=0
  · rw[if_pos hy]at h
    rcases List.mem_cons.1 hx with rfl | hx
    · exact hy
    · exact nodesE_zero h x hx
  · rw[if_neg hy]at h
    exact(hy h).elim
theorem wg_of {g:Gm} (h:g.formE=0):Wg g:=by
 unfold Gm.formE at h
 by_cases h0:g.err0=0
 · have h1:¬ g.err0≠0:=by simpa using h0
   rw[if_neg h1]at h
   unfold Gm.err0 at h0
   by_cases hr:g.rng
   · rw[if_pos hr]at h0; cases h0
   · rw[if_neg hr]at h0
     by_cases hn:nodesE g g.ns=0
     · have hn':¬ nodesE g g.ns≠0:=by simpa using hn
       rw[if_neg hn']at h0
       by_cases hw:g.wk.1=some g.ns.length
       · have hw':¬ g.wk.1≠some g.ns.length:=by simpa using hw
         rw[if_neg hw']at h0
         by_cases hm:40<maxL g.wk.2.D
         · rw[if_pos hm]at h0; cases h0
         · unfold Gm.rng at hr
           exact⟨⟨by omega,by omega,by omega,by omega,by omega,nodesE_zero hn⟩,hw,by omega,h⟩
       · have hw':g.wk.1≠some g.ns.length:=hw
         rw[if_pos hw']at h0; cases h0
     · have hn':nodesE g g.ns≠0:=hn
       rw[if_pos hn']at h0; exact(hn h0).elim
 · have h1:g.err0≠0:=h0
   rw[if_pos h1]at h
   exact(h0 h).elim
section
variable {H:List AO} {g:Gm}
set_option maxRecDepth 10000 in
theorem loop28 (hg:Gd g) {N:Nat} {K:XE->Env->List AO->Prop}
 (hexit:∀ env M cs,Fam (H.length+1) M g.sets cs->env.get 3=.own H.length 0 g.is.length 1 0->K (.exit 0) env (H++⟨cs,45,0,true⟩::M)) :
 ∀ (n i:Nat) (env:Env) (M:List AO) (A:List (List Int)) (cs:List SV),i+n=g.ns.length->A.length=g.is.length->(∀ s (h:s<A.length),A[s].length≤i)->Fam (H.length+1) M A cs->setsA (g.ns.drop i) i A=g.sets →
  env.get 3=.own H.length 0 g.is.length 1 0->env.get 17=.slc (nds g.ns) g.ns.length->env.get 18=i64 g.ns.length->env.get 19=i64 i →
  LI Tryz.prog N drawB l86_0 env (H++⟨cs,45,0,true⟩::M) K:=by
 have hgn:=hg.n
 intro n
 induction n with
 | zero =>
  intro i env M A cs hi hA hAl hF hS h3 h17 h18 h19
  refine li_go hm l86_0.eq_1 ?_
  have e:i=g.ns.length:=by omega
  subst e
  rw[List.drop_length]at hS
  subst hS
  simp -implicitDefEqProofs[h18,h19]
  exact hexit _ _ _ hF (by simp[h3])
 | succ n ih =>
  intro i env M A cs hi hA hAl hF hS h3 h17 h18 h19
  refine li_go hm l86_0.eq_1 ?_
  have hlt:i<g.ns.length:=by omega
  have hx:g.ns[i]∈g.ns:=List.getElem_mem hlt
  have w1:IntKind.i64.wrap ((i:Int)+1)=((i+1:Nat):Int):=wrap_succ (by omega)
  rw[List.drop_eq_getElem_cons hlt,setsA]at hS
  by_cases hk:g.ns[i].k=2
  · have hb:=hg.inf hx hk
    have hs:g.ns[i].i.toNat<A.length:=by omega
    have hcl:=hF.len
    rw[if_pos hk,List.getD_eq_getElem?_getD,List.getElem?_eq_getElem hs,Option.getD_some]at hS
    have eset:∀ v:SV,List.take g.ns[i].i.toNat cs++v::List.drop (g.ns[i].i.toNat+1) cs=cs.set g.ns[i].i.toNat v:=fun v=>by
     rw[List.set_eq_take_append_cons_drop,if_pos (by omega)]
    have hAl':∀ v:List Int,v.length≤i+1->∀ s (h:s<(A.set g.ns[i].i.toNat v).length),(A.set g.ns[i].i.toNat v)[s].length≤i+1:=fun v hv s h=>by
     by_cases e:g.ns[i].i.toNat=s
     · subst e; simpa using hv
     · rw[List.getElem_set_ne e]
       have:=hAl s (by simpa using h); omega
    rcases hF.at' _ hs with ⟨k1,k2⟩ | ⟨k1,p,k2,k3⟩
    · simp -implicitDefEqProofs[h3,h17,h18,h19,hlt,nds_at hlt,nds_min hlt,nds_ge hlt,hk,sl,k2]
      refine⟨by omega,by omega,by omega,by omega,?_⟩
      have hF':∀ x y:AO,Fam (H.length+1) (M++[x,y,⟨[i64 i],3,1,true⟩]) (A.set g.ns[i].i.toNat [(i:Int)]) (cs.set g.ns[i].i.toNat (.own (H.length+(M.length+3)) 0 1 1 1)):=fun x y=>by
       have:=(hF.mono [x,y]).new (i:=(i:Int)) hs k1
       rw[show H.length+1+(M++[x,y]).length=H.length+(M.length+3)by simp; omega]at this
       simpa[ints]using this
      rw[k1,List.nil_append]at hS
      rw[eset,w1]
      refine ih (i+1) _ _ _ _ (by omega) (by simp[hA]) (hAl' _ (by simp)) (hF' _ _) hS ?_ ?_ ?_ ?_
      · simp
      · simp
      · simp
      · simp
    · rw[show H.length+1+p=H.length+(p+1)by omega]at k2
      have hp:=getElem?_lt k3
      have hle:=hAl _ hs
      simp -implicitDefEqProofs[h3,h17,h18,h19,hlt,nds_at hlt,nds_min hlt,nds_ge hlt,hk,sl,k2,setObj_old k3,objCells_set0,objCells_setk,objIs_old k3]
      refine⟨by omega,by omega,by omega,by omega,by omega,by omega,?_⟩
      have hF':∀ x y:AO,Fam (H.length+1) (M.set p ⟨ints A[g.ns[i].i.toNat]++[i64 i],3,A[g.ns[i].i.toNat].length+1,true⟩++[x,y]) (A.set g.ns[i].i.toNat (A[g.ns[i].i.toNat]++[(i:Int)]))
       (cs.set g.ns[i].i.toNat (.own (H.length+(p+1)) 0 (A[g.ns[i].i.toNat].length+1) 1 (A[g.ns[i].i.toNat].length+1))):=fun x y=>by
       rw[show H.length+(p+1)=H.length+1+p by omega]at k2 ⊢
       have:=(hF.grow (i:=(i:Int)) hs k2 k3).mono [x,y]
       simpa[ints]using this
      rw[eset,w1]
      refine ih (i+1) _ _ _ _ (by omega) (by simp[hA]) (hAl' _ (by simp; omega)) (hF' _ _) hS ?_ ?_ ?_ ?_
      · simp
      · simp
      · simp
      · simp
  · simp -implicitDefEqProofs[h3,h17,h18,h19,hlt,nds_at hlt,nds_min hlt,nds_ge hlt,hk,sl]
    rw[if_neg hk]at hS
    rw[w1]
    refine ih (i+1) _ _ A cs (by omega) hA (fun s h=>by have:=hAl s h; omega) (hF.mono _) hS ?_ ?_ ?_ ?_
    · simp
    · simp
    · simp
    · simp
def Gm.setsV (g:Gm):SV:=.slc (g.sets.map slN) g.is.length
set_option maxRecDepth 10000 in
theorem ok86 (hg:Gd g):Ok Tryz.prog 86 [g.wp] H (.ret g.setsV) H:=by
 have hn:=hg.n
 have hi:=hg.i
 refine ok_fn hm Tryz.func86 c86 (by simp) fun hcl => ?_
 simp -implicitDefEqProofs[i86,r86,Gm.wp,sl]
 refine⟨by omega,by omega,?_⟩
 refine loop28 (g:=g) hg (fun env M cs hF h3 => ?_) g.ns.length 0 _ [] (List.replicate g.is.length []) (List.replicate g.is.length nl) (by omega) (by simp) (by simp) (Fam.zero _ _ _) (by simp[Gm.sets]) (by simp) (by simp) (by simp) (by simp)
 simp -implicitDefEqProofs[h3]
 refine cv_fz 4 hcl rfl ?_
 have hl:=hF.len
 rw[sets_len]at hl
 have:=hF.fz (n:=H.length) (k:=1) (d:=1) (F:=(⟨cs,45,0,true⟩:AO)::M) rfl (fun p=>by rw[show 1+p=p+1 by omega]; simp)
 simp[hl,this,Gm.setsV]
 exact List.take_of_length_le (by simp[sets_len])
end
end Go.Proofs.YtogjmpkehjfecaaGreatDoor.Rc
namespace Go.Proofs.YtogjmpkehjfecaaGreatDoor.Rc
open Go.Ab
structure WF (g:Gm):Prop where
 len:g.wk.2.ok g.ns.length
 nf:∀ i (h:i<g.ns.length),Nf g.ns g.wk.2 i g.ns[i]
 pf:∀ i,0<i->i<g.ns.length->∃ p,∃ h:p<g.ns.length,gi g.wk.2.P i=p∧p<i∧(i:Int)∈g.ns[p].nx
 p0:gi g.wk.2.P 0 = -1
 d0:gi g.wk.2.D 0=0
theorem Wg.wf {g:Gm} (h:Wg g):WF g:=by
 have hok:=walkS_ok (ns:=g.ns) (g.ns.length+1) (-1) 0 0 g.w0 w0_ok
 obtain⟨hf,_⟩:=walk_facts (ns:=g.ns) (g.ns.length+1) (-1) 0 0 g.w0 g.ns.length w0_ok h.wk
 refine⟨hok.1,fun i hi=>hf.nf i _ (by omega) hi (List.getElem?_eq_getElem hi),fun i h0 hi => ?_,hf.p,hf.d⟩
 obtain⟨p,x,k1,k2,k3,k4,k5⟩:=hf.pf i h0 hi
 have hp:p<g.ns.length:=by omega
 rw[List.getElem?_eq_getElem hp]at k4
 cases k4
 exact⟨p,hp,k1,k3,k5⟩
theorem gi_get {l:List Int} {i:Nat} (h:i<l.length):l[i]=gi l i:=by simp[gi,h]
theorem wk_len {g:Gm}:g.wk.2.ok g.ns.length:=(walkS_ok (ns:=g.ns) (g.ns.length+1) (-1) 0 0 g.w0 w0_ok).1
section
variable {H:List AO} {g:Gm}
def Gm.last (g:Gm) (node:Int):Int×Int:=if g.formE≠0 then(0,g.formE)else if node<0∨g.ns.length≤node then(0,2)else(gi g.wk.2.L node.toNat,0)
end
end Go.Proofs.YtogjmpkehjfecaaGreatDoor.Rc
namespace Go.Proofs.YtogjmpkehjfecaaGreatDoor.Rc
open Go.Ab
end Go.Proofs.YtogjmpkehjfecaaGreatDoor.Rc
namespace Go.Proofs.YtogjmpkehjfecaaGreatDoor.Rc
open Go.Ab
section
variable {σ:Type}
def abv (g:Gm) (pl:Int) (nb:σ->Nat->Int->Bool) (nx:σ->Nat->Int->σ):Nat->Nat->σ->σ
 | 0,_,s=>s
 | f+1,node,s =>
  if gi g.wk.2.P node<0 then s else
   match g.ns[(gi g.wk.2.P node).toNat]? with
   | none=>s
   | some x =>
    if x.k=2∧x.p=pl then
     (if nb s (gi g.wk.2.P node).toNat (fstAt node x.nx)=true then abv g pl nb nx f (gi g.wk.2.P node).toNat (nx s (gi g.wk.2.P node).toNat (fstAt node x.nx))else nx s (gi g.wk.2.P node).toNat (fstAt node x.nx))
    else abv g pl nb nx f (gi g.wk.2.P node).toNat s
variable {g:Gm} {Inv:Nat->List AO->σ->Prop} {vf:SV} {nb:σ->Nat->Int->Bool} {nx:σ->Nat->Int->σ} {pl:Int}
set_option maxRecDepth 10000 in
theorem loop98 (hW:Wg g) (hv:vf.vd=true∧vf.ug=vf) (hclo:∀ m G s (k:Nat) (a:Int),k<m->m<g.ns.length->Inv m G s->OkCP Tryz.prog vf [i64 k,i64 a] G fun out G'=>out=.ret (bl (nb s k a))∧Inv k G' (nx s k a))
 (hbox:∀ m G s o,Inv m G s->Inv m (G++[o]) s) (hdec:∀ m k G s,k<m->Inv m G s->Inv k G s) {N:Nat} {K:XE->Env->List AO->Prop} {s0:σ}
 (hret:∀ env m G,Inv m G s0->K .ret env G) (hexit:∀ env m G,Inv m G s0->K (.exit 0) env G) :
 ∀ (f node:Nat) (env:Env) (G:List AO) (s:σ),node<f->node<g.ns.length->Inv node G s->abv g pl nb nx f node s=s0 →
  env.get 0=g.wp->env.get 1=i64 node->env.get 2=i64 pl->env.get 3=vf->env.get 8=i64 (gi g.wk.2.P node)->LI Tryz.prog N drawB l114_0 env G K:=by
 have hf:=hW.wf
 have hgn:=hW.gd.n
 have hlen:g.wk.2.P.length=g.ns.length:=wk_len.1
 intro f
 induction f with
 | zero=>intro node env G s h; omega
 | succ f ih =>
  intro node env G s hnf hn hI hs e0 e1 e2 e3 e8
  refine li_go hm l114_0.eq_1 ?_
  unfold abv at hs
  by_cases hneg:gi g.wk.2.P node<0
  · rw[if_pos hneg]at hs
    subst hs
    simp -implicitDefEqProofs[e8,show ¬ 0≤gi g.wk.2.P node by omega]
    exact hexit _ _ _ hI
  · rw[if_neg hneg]at hs
    have hn0:0<node:=by
     rcases Nat.eq_zero_or_pos node with h | h
     · subst h; rw[hf.p0]at hneg; omega
     · exact h
    obtain⟨p,hp,k1,k2,k3⟩:=hf.pf node hn0 hn
    have k1':(gi g.wk.2.P node).toNat=p:=by omega
    rw[k1',List.getElem?_eq_getElem hp]at hs
    simp only at hs
    rw[k1]at e8
    have hnx:g.ns[p].nx.length≤60:=nx_of (hW.gd.e _ (List.getElem_mem hp))
    by_cases hm':g.ns[p].k=2∧g.ns[p].p=pl
    · rw[if_pos hm']at hs
      simp -implicitDefEqProofs[e0,e1,e2,e3,e8,Gm.wp,hp,nds_at hp,nds_min hp,nds_ge hp,sl,hm'.1,hm'.2,hv.1,hv.2]
      refine callq_st (fun _=>ok140 (IsI.slc _ _) (by omega) (node:Int)) ?_
      simp -implicitDefEqProofs
      refine call_gd (hclo node _ s p (fstAt node g.ns[p].nx) k2 hn (hbox _ _ _ _ hI)) (fun out G' hP => ?_)
      obtain⟨rfl,hI'⟩:=hP
      cases hb:nb s p (fstAt node g.ns[p].nx)with
      | true =>
       rw[hb,if_pos rfl]at hs
       simp -implicitDefEqProofs[e0,e8,Gm.wp,hp,hlen,sl]
       refine⟨by omega,?_⟩
       rw[gi_get (show p<g.wk.2.P.length by omega)]
       refine ih p _ _ _ (by omega) hp hI' hs ?_ ?_ ?_ ?_ ?_
       · simp[Gm.wp,sl,hlen]
       · simp
       · simp[e2]
       · simp[e3]
       · simp
      | false =>
       rw[hb,if_neg (by simp)]at hs
       subst hs
       simp -implicitDefEqProofs
       exact hret _ _ _ hI'
    · rw[if_neg hm']at hs
      by_cases hk2:g.ns[p].k=2
      · have hpl:¬ g.ns[p].p=pl:=fun h=>hm' ⟨hk2,h⟩
        simp -implicitDefEqProofs[e0,e1,e2,e3,e8,Gm.wp,hp,nds_at hp,nds_min hp,nds_ge hp,sl,hk2,hpl,hv.1,hv.2]
        refine callq_off _ _ _ _ ?_
        simp -implicitDefEqProofs[e0,e8,Gm.wp,hp,hlen,sl]
        refine⟨by omega,?_⟩
        rw[gi_get (show p<g.wk.2.P.length by omega)]
        refine ih p _ _ _ (by omega) hp (hdec _ _ _ _ k2 (hbox _ _ _ _ hI)) hs ?_ ?_ ?_ ?_ ?_
        · simp[Gm.wp,sl,hlen]
        · simp
        · simp[e2]
        · simp[e3]
        · simp
      · simp -implicitDefEqProofs[e0,e1,e2,e3,e8,Gm.wp,hp,nds_at hp,nds_min hp,nds_ge hp,sl,hk2,hv.1,hv.2]
        refine callq_off _ _ _ _ ?_
        simp -implicitDefEqProofs[e0,e8,Gm.wp,hp,hlen,sl]
        refine⟨by omega,?_⟩
        rw[gi_get (show p<g.wk.2.P.length by omega)]
        refine ih p _ _ _ (by omega) hp (hdec _ _ _ _ k2 (hbox _ _ _ _ hI)) hs ?_ ?_ ?_ ?_ ?_
        · simp[Gm.wp,sl,hlen]
        · simp
        · simp[e2]
        · simp[e3]
        · simp
theorem ok114 (hW:Wg g) (hv:vf.vd=true∧vf.ug=vf) (hclo:∀ m G s (k:Nat) (a:Int),k<m->m<g.ns.length->Inv m G s->OkCP Tryz.prog vf [i64 k,i64 a] G fun out G'=>out=.ret (bl (nb s k a))∧Inv k G' (nx s k a))
 (hbox:∀ m G s o,Inv m G s->Inv m (G++[o]) s) (hdec:∀ m k G s,k<m->Inv m G s->Inv k G s) {G:List AO} {s:σ} {node:Nat} (hn:node<g.ns.length) (hI:Inv node G s) :
 OkP Tryz.prog 114 [g.wp,i64 node,i64 pl,vf] G fun out G'=>out=.ret (.tup [])∧∃ m,Inv m G' (abv g pl nb nx g.ns.length node s):=by
 have hlen:g.wk.2.P.length=g.ns.length:=wk_len.1
 refine okP_fn hm Tryz.func114 c114 (by simp) fun hcl => ?_
 simp -implicitDefEqProofs[i114,r114,Gm.wp,sl,hn,hlen]
 refine⟨by omega,?_⟩
 rw[gi_get (show node<g.wk.2.P.length by omega)]
 refine loop98 (g:=g) hW hv hclo hbox hdec (s0:=abv g pl nb nx g.ns.length node s) (pl:=pl) (fun env m G' hI' => ?_) (fun env m G' hI' => ?_) g.ns.length node _ _ s hn hn hI rfl (by simp[Gm.wp,sl,hlen]) (by simp) (by simp) (by simp) (by simp)
 · simp -implicitDefEqProofs
   exact⟨_,_,⟨rfl,m,hI'⟩,cv_id⟩
 · simp -implicitDefEqProofs
   exact⟨_,_,⟨rfl,m,hI'⟩,cv_id⟩
end
end Go.Proofs.YtogjmpkehjfecaaGreatDoor.Rc
namespace Go.Proofs.YtogjmpkehjfecaaGreatDoor.Rc
open Go.Ab
def WayI (g:Gm) (H:List AO) (m:Nat) (G:List AO) (l:List (Int×Int)):Prop :=
 l.length+m≤2000∧∃ L c,G=H++⟨[g.wp],128,0,true⟩::⟨[c],151,0,true⟩::L ∧
  ((l=[]∧c=nl)∨(l≠[]∧∃ p,c=.own (H.length+(p+1+1)) 0 l.length 2 l.length∧L[p]? = some ⟨infs l,155,l.length,true⟩))
theorem infs_snoc:∀ (l:List (Int×Int)) (x:Int×Int),infs (l++[x])=infs l++[i64 x.1,i64 x.2]
 | [],x=>rfl
 | y::r,x=>by simp[infs,infs_snoc r x]
def infoAt (g:Gm) (k:Nat):Int:=match g.ns[k]? with | some x=>x.i | none=>0
section
variable {H:List AO} {g:Gm}
theorem nds_g2 {l:List Nd} {k:Nat} (h:k<l.length):(nds l)[k*6+2]? = some (i64 l[k].i):=by rw[nds_get h (by omega)]; rfl
set_option maxRecDepth 10000 in
theorem ok138 {m:Nat} {G:List AO} {l:List (Int×Int)} (hI:WayI g H m G l) {k:Nat} (hk:k<g.ns.length) (hkm:k<m) (hn:g.ns.length≤2000) (a:Int) :
 OkP Tryz.prog 138 [i64 k,i64 a,.ptr (.own (H.length+1) 0 0 0 0) 0,.ptr (.own H.length 0 0 0 0) 0] G fun out G'=>out=.ret (bl true)∧WayI g H k G' (l++[(infoAt g k,a)]):=by
 have hinf:infoAt g k=g.ns[k].i:=by unfold infoAt; rw[List.getElem?_eq_getElem hk]
 rw[hinf]
 obtain⟨hb,L,c,rfl,hc⟩:=hI
 refine okP_fn hm Tryz.func138 c138 (by simp) fun hcl => ?_
 rcases hc with ⟨rfl,rfl⟩ | ⟨hne,p,rfl,hp⟩
 · simp -implicitDefEqProofs[i138,r138,Gm.wp,sl,hk,nds_g2 hk,nds_len]
   refine⟨by omega,_,_,⟨rfl,by simp at hb ⊢; omega,L++[_,_],_,rfl,.inr ⟨by simp,L.length+1,rfl,?_⟩⟩,cv_id⟩
   rw[List.getElem?_append_right (by omega)]; simp[infs]
 · simp -implicitDefEqProofs[i138,r138,Gm.wp,sl,hk,nds_g2 hk,nds_len,setObj_old hp,objIs_old hp,objCells_set0,objCells_setk,len_addn]
   refine⟨by omega,by omega,by omega,by rw[infs_len]; omega,by omega,_,_,⟨rfl,by simp; omega,L.set p _++[_],_,rfl,.inr ⟨by simp,p,by simp,?_⟩⟩,cv_id⟩
   rw[List.getElem?_append_left (by simpa using getElem?_lt hp),List.getElem?_set_self (getElem?_lt hp)]
   simp[infs_snoc]
def prow (l:List (Int×Int)) (v:Nat):AO:=⟨infs l,155,v,true⟩
theorem infs_set:∀ (l:List (Int×Int)) (i:Nat) (a b:Int),i<l.length->(infs l).take (i*2)++i64 a::i64 b::(infs l).drop (i*2+2)=infs (l.set i (a,b))
 | [],i,a,b,h=>by simp at h
 | x::r,0,a,b,h=>by simp[infs]
 | x::r,i+1,a,b,h=>by
  rw[show(i+1)*2=i*2+2 by omega]
  simp only[infs,List.take_succ_cons,List.drop_succ_cons,List.set_cons_succ,List.cons_append]
  rw[infs_set r i a b (by simpa using h)]
def Rv (l m:List (Int×Int)) (i:Nat):Prop:=m.length=l.length∧∀ t,t<l.length->m[t]? = if t<i∨l.length-1-i<t then l[l.length-1-t]? else l[t]?
theorem Rv.step {l m:List (Int×Int)} {i:Nat} (h:Rv l m i) (hi:i<l.length-1-i) {x y:Int×Int} (hx:m[l.length-1-i]? = some x) (hy:m[i]? = some y):Rv l ((m.set i x).set (l.length-1-i) y) (i+1):=by
 have hlm:=h.1
 refine⟨by simpa using h.1,fun t ht => ?_⟩
 have hx':=h.2 (l.length-1-i) (by omega)
 have hy':=h.2 i (by omega)
 rw[if_neg (by omega)]at hx' hy'
 rw[hx]at hx'
 rw[hy]at hy'
 by_cases e1:t=l.length-1-i
 · subst e1
   rw[List.getElem?_set_self (by simp; omega),if_pos (by omega),hy']
   congr 1; omega
 · rw[List.getElem?_set_ne (fun h=>e1 h.symm)]
   by_cases e2:t=i
   · subst e2
     rw[List.getElem?_set_self (by omega),if_pos (by omega),hx']
   · rw[List.getElem?_set_ne (fun h=>e2 h.symm),h.2 t ht]
     by_cases hc:t<i∨l.length-1-i<t
     · rw[if_pos hc,if_pos (by omega)]
     · rw[if_neg hc,if_neg (by omega)]
theorem Rv.done {l m:List (Int×Int)} {i:Nat} (h:Rv l m i) (hi:¬ (i:Int)<(l.length:Int)-1-i):m=l.reverse:=by
 have hlm:=h.1
 apply List.ext_getElem?
 intro t
 by_cases ht:t<l.length
 · rw[h.2 t ht,List.getElem?_reverse ht]
   by_cases hc:t<i∨l.length-1-i<t
   · rw[if_pos hc]
   · rw[if_neg hc]
     congr 1; omega
 · rw[List.getElem?_eq_none (by omega),List.getElem?_eq_none (by simp; omega)]
theorem setObj_set {G:List AO} {q:Nat} (hq:q<G.length) (o:AO) (f:AO->AO):Ab.setObj (G.set q o) q f=G.set q (f o):=by
 rw[setObj_some (o:=o) (List.getElem?_set_self hq),List.set_set]
theorem objCells_set {G:List AO} {q:Nat} (hq:q<G.length) (l:List (Int×Int)) (v:Nat):objCells (G.set q (prow l v)) q v=infs l :=
 objCells_of (o:=prow l v) (List.getElem?_set_self hq) rfl
set_option maxRecDepth 10000 in
theorem loop37 {G:List AO} {q v:Nat} (hq:q<G.length) {l:List (Int×Int)} (hl:l.length≤2000) {N:Nat} {K:XE->Env->List AO->Prop} (hexit:∀ env,K (.exit 0) env (G.set q (prow l.reverse v))) :
 ∀ (n i:Nat) (m:List (Int×Int)) (env:Env),l.length≤i+n->i≤l.length->Rv l m i->env.get 0=.own q 0 l.length 2 v->env.get 2=i64 i->env.get 3=i64 ((l.length:Int)-1-i) →
  LI Tryz.prog N drawB l139_0 env (G.set q (prow m v)) K:=by
 intro n
 induction n with
 | zero =>
  intro i m env hn hi hR e0 e2 e3
  refine li_go hm l139_0.eq_1 ?_
  have hno:¬ (i:Int)<(l.length:Int)-1-i:=by omega
  simp -implicitDefEqProofs[e0,e2,e3,hno]
  rw[hR.done hno]
  exact hexit _
 | succ n ih =>
  intro i m env hn hi hR e0 e2 e3
  refine li_go hm l139_0.eq_1 ?_
  by_cases hlt:(i:Int)<(l.length:Int)-1-i
  · have hlm:=hR.1
    have ej:(l.length:Int)-1-i=((l.length-1-i:Nat):Int):=by omega
    have hj:l.length-1-i<m.length:=by omega
    have hi':i<m.length:=by omega
    have w1:IntKind.i64.wrap ((i:Int)+1)=((i+1:Nat):Int):=wrap_succ (by omega)
    have w2:IntKind.i64.wrap (((l.length-1-i:Nat):Int)-1)=(l.length:Int)-1-((i+1:Nat):Int):=by rw[wrap_id (by omega) (by omega)]; omega
    rw[ej]at e3 hlt
    have hlt':i<l.length-1-i:=by omega
    simp -implicitDefEqProofs[e0,e2,e3,hlt,hlt',objCells_set hq,infs_at hj,infs_at hi',infs_len,show i<l.length by omega,show l.length-1-i<l.length by omega,setObj_set hq]
    have c1:List.take (i*2) (prow m v).cells++i64 m[l.length-1-i].1::i64 m[l.length-1-i].2::List.drop (i*2+2) (prow m v).cells=infs (m.set i m[l.length-1-i]):=infs_set m i _ _ hi'
    rw[c1]
    have c2:List.take ((l.length-1-i)*2) (infs (m.set i m[l.length-1-i]))++i64 m[i].1::i64 m[i].2::List.drop ((l.length-1-i)*2+2) (infs (m.set i m[l.length-1-i]))=infs ((m.set i m[l.length-1-i]).set (l.length-1-i) m[i]) :=
     infs_set _ _ _ _ (by simpa using hj)
    rw[c2,w1,w2]
    have c3:objCells (G.set q (prow (m.set i m[l.length-1-i]) v)) q v=infs (m.set i m[l.length-1-i]):=objCells_set hq _ v
    refine⟨by omega,?_,?_⟩
    · show _≤(objCells (G.set q (prow (m.set i m[l.length-1-i]) v)) q v).length
      rw[c3,infs_len,List.length_set]; omega
    · refine ih (i+1) ((m.set i m[l.length-1-i]).set (l.length-1-i) m[i]) _ (by omega) (by omega) (hR.step hlt' (List.getElem?_eq_getElem hj) (List.getElem?_eq_getElem hi')) ?_ ?_ ?_
      · simp
      · simp
      · simp
  · simp -implicitDefEqProofs[e0,e2,e3,hlt]
    rw[hR.done hlt]
    exact hexit _
theorem ok139 {G:List AO} {q v:Nat} (hq:q<G.length) {l:List (Int×Int)} (hl:l.length≤2000):Ok Tryz.prog 139 [.own q 0 l.length 2 v] (G.set q (prow l v)) (.ret (.tup [])) (G.set q (prow l.reverse v)):=by
 refine ok_fn hm Tryz.func139 c139 (by simp) fun hcl => ?_
 have w1:IntKind.i64.wrap ((l.length:Int)-1)=(l.length:Int)-1-((0:Nat):Int):=by rw[wrap_id (by omega) (by omega)]; omega
 simp -implicitDefEqProofs[i139,r139]
 rw[w1]
 refine loop37 hq hl (fun env => ?_) l.length 0 l _ (by omega) (by omega) ⟨rfl,fun t ht=>by rw[if_neg (by omega)]⟩ (by simp) (by simp) (by simp)
 simp -implicitDefEqProofs
 exact cv_id
theorem ok139n {G:List AO}:Ok Tryz.prog 139 [nl] G (.ret (.tup [])) G:=by
 refine ok_fn hm Tryz.func139 c139 (by simp) fun hcl => ?_
 simp -implicitDefEqProofs[i139,r139,show(SV.val (Value.slice none 0 0)).isSl=true by rfl,show(SV.val (Value.slice none 0 0)).slen=0 by rfl,show IntKind.i64.wrap (-1) = -1 by rfl]
 refine li_go hm l139_0.eq_1 ?_
 simp -implicitDefEqProofs
 exact cv_id
end
end Go.Proofs.YtogjmpkehjfecaaGreatDoor.Rc
namespace Go.Proofs.YtogjmpkehjfecaaGreatDoor.Rc
open Go.Ab
def wv (l:List (Int×Int)):SV:=if l=[]then nl else .slc (infs l) l.length
def Gm.up (g:Gm) (node:Nat) (pl:Int):List (Int×Int):=abv g pl (fun _ _ _=>true) (fun l k a=>l++[(infoAt g k,a)]) g.ns.length node []
def Gm.way (g:Gm) (node:Nat) (pl:Int):List (Int×Int):=(g.up node pl).reverse
section
variable {H:List AO} {g:Gm}
set_option maxRecDepth 10000 in
theorem ok113 (hW:Wg g) {node:Nat} (hn:node<g.ns.length) (pl:Int):Ok Tryz.prog 113 [g.wp,i64 node,i64 pl] H (.ret (wv (g.way node pl))) H:=by
 have hgn:=hW.gd.n
 refine ok_fn hm Tryz.func113 c113 (by simp) fun hcl => ?_
 have hwp:g.wp.vd=true∧g.wp.ug=g.wp∧g.wp.flat=[g.wp]∧g.wp.isCell=true:=⟨rfl,rfl,rfl,rfl⟩
 simp -implicitDefEqProofs[i113,r113,hwp.1,hwp.2.1,hwp.2.2.1,hwp.2.2.2]
 have h67:=ok114 (g:=g) (σ:=List (Int×Int)) (Inv:=WayI g H) (vf:=.fn (.func 138) [] [.ptr (.own (H.length+1) 0 0 0 0) 0,.ptr (.own H.length 0 0 0 0) 0]) (nb:=fun _ _ _=>true) (nx:=fun l k a=>l++[(infoAt g k,a)]) (pl:=pl) hW ⟨rfl,rfl⟩
  (fun m G s k a hkm hm' hI=>okCP_of (by simpa using ok138 hI (by omega) hkm hgn a))
  (fun m G s o hI=>by
   obtain⟨hb,L,c,rfl,hc⟩:=hI
   refine⟨hb,L++[o],c,by simp,?_⟩
   rcases hc with h | ⟨h1,p,h2,h3⟩
   · exact .inl h
   · exact .inr ⟨h1,p,h2,by rw[List.getElem?_append_left (getElem?_lt h3)]; exact h3⟩)
  (fun m k G s hkm hI=>⟨by have:=hI.1; omega,hI.2⟩) (G:=H++[⟨[g.wp],128,0,true⟩,⟨[nl],151,0,true⟩]) (s:=[]) (node:=node) hn ⟨by simp; omega,[],nl,rfl,.inl ⟨rfl,rfl⟩⟩
 refine call_goP h67 (fun out G' hP => ?_)
 obtain⟨rfl,m,hb,L,c,rfl,hc⟩:=hP
 have hup:abv g pl (fun _ _ _=>true) (fun l k a=>l++[(infoAt g k,a)]) g.ns.length node []=g.up node pl:=rfl
 rw[hup]at hb hc
 rcases hc with ⟨h0,rfl⟩ | ⟨hne,p,rfl,hp⟩
 · have hw:wv (g.way node pl)=nl:=by unfold wv Gm.way; rw[h0]; rfl
   rw[hw]
   simp -implicitDefEqProofs
   refine call_go ok139n ?_
   simp -implicitDefEqProofs
   exact cv_fz 2 hcl rfl (by simp)
 · have hw:wv (g.way node pl)=.slc (infs (g.up node pl).reverse) (g.up node pl).length:=by
    unfold wv Gm.way; rw[if_neg (by simpa using hne)]; simp
   rw[hw]
   simp -implicitDefEqProofs
   have hL:L.set p (prow (g.up node pl) (g.up node pl).length)=L:=by
    apply List.ext_getElem?
    intro i
    by_cases h:p=i
    · subst h; rw[List.getElem?_set_self (getElem?_lt hp),hp]; rfl
    · rw[List.getElem?_set_ne h]
   have hset:∀ (A B o:AO),(H++A::B::L).set (H.length+(p+1+1)) o=H++A::B::L.set p o:=fun A B o=>by simp
   have h71:=ok139 (G:=H++(⟨[g.wp],128,0,true⟩:AO)::⟨[.own (H.length+(p+1+1)) 0 (g.up node pl).length 2 (g.up node pl).length],151,0,true⟩::L) (q:=H.length+(p+1+1)) (v:=(g.up node pl).length) (by have:=getElem?_lt hp; simp; omega) (l:=g.up node pl) (by omega)
   rw[hset,hset,hL]at h71
   refine call_go h71 ?_
   simp -implicitDefEqProofs
   refine cv_fz 3 hcl rfl ?_
   have hpl:=getElem?_lt hp
   simp[hpl,prow,infs_len,Nat.mul_comm]
   exact List.take_of_length_le (by rw[infs_len,List.length_reverse]; omega)
end
end Go.Proofs.YtogjmpkehjfecaaGreatDoor.Rc
namespace Go.Proofs.YtogjmpkehjfecaaGreatDoor.Rc
open Go.Ab
theorem wv_facts (l:List (Int×Int)):(wv l).vd=true∧(wv l).ug=wv l∧(wv l).isSl=true∧(wv l).slen=l.length∧(wv l).isCell=true∧(wv l).flat=[wv l]:=by
 unfold wv
 split
 · rename_i h; subst h; exact⟨rfl,rfl,rfl,rfl,rfl,rfl⟩
 · exact⟨rfl,rfl,rfl,rfl,rfl,rfl⟩
theorem wv_ne {l:List (Int×Int)} (h:l≠[]):wv l=.slc (infs l) l.length:=if_neg h
section
variable {H:List AO} {g:Gm} {a b:List (Int×Int)}
set_option maxRecDepth 10000 in
theorem loop64 (hl:a.length≤100000) (hab:a.length=b.length) {N:Nat} {K:XE->Env->List AO->Prop}
 (hret:a≠b->∀ env,env.get 4=bl false->K .ret env H) (hexit:a=b->∀ env,K (.exit 0) env H) :
 ∀ (n i:Nat) (env:Env),i+n=a.length->(∀ k (h:k<a.length),k<i->a[k]=b[k]'(by omega))->env.get 0=wv a->env.get 1=wv b->env.get 12=i64 a.length->env.get 13=i64 i →
  LI Tryz.prog N drawB l141_0 env H K:=by
 intro n
 induction n with
 | zero =>
  intro i env hi hp h0 h1 h12 h13
  refine li_go hm l141_0.eq_1 ?_
  have e:i=a.length:=by omega
  subst e
  simp -implicitDefEqProofs[h12,h13]
  exact hexit (List.ext_getElem hab fun k h1 h2=>hp k h1 h1) _
 | succ n ih =>
  intro i env hi hp h0 h1 h12 h13
  refine li_go hm l141_0.eq_1 ?_
  have hlt:i<a.length:=by omega
  have hlt':i<b.length:=by omega
  have ha:a≠[]:=fun e=>by subst e; simp at hlt
  have hb:b≠[]:=fun e=>by subst e; simp at hlt'
  have w1:IntKind.i64.wrap ((i:Int)+1)=((i+1:Nat):Int):=wrap_succ (by omega)
  have f1:=wv_ne ha; have f2:=wv_ne hb
  simp -implicitDefEqProofs[h0,h1,h12,h13,f1,f2,hlt,hlt',infs_at hlt,infs_at hlt',infs_min hlt,infs_ge hlt,infs_min hlt',infs_ge hlt']
  by_cases hc:a[i]=b[i]
  · rw[if_neg (by rw[hc]; simp)]
    rw[w1]
    refine ih (i+1) _ (by omega) ?_ ?_ ?_ ?_ ?_
    rotate_left
    · simp[f1]
    · simp[f2]
    · simp
    · simp
    intro k hk hki
    by_cases e:k=i
    · subst e; exact hc
    · exact hp k hk (by omega)
  · rw[if_pos (by
     by_cases h1:a[i].1=b[i].1
     · exact .inr fun h2=>hc (Prod.ext h1 h2)
     · exact .inl h1)]
    exact hret (fun e=>hc (by subst e; rfl)) _ (by simp)
theorem ok141 (hl:a.length≤100000):Ok Tryz.prog 141 [wv a,wv b] H (.ret (bl (decide (a=b)))) H:=by
 obtain⟨v1,v2,v3,v4,v5,v6⟩:=wv_facts a
 obtain⟨u1,u2,u3,u4,u5,u6⟩:=wv_facts b
 refine ok_fn hm Tryz.func141 c141 (by simp) fun hcl => ?_
 by_cases hab:a.length=b.length
 · simp -implicitDefEqProofs[i141,r141,v1,v2,v3,v4,u1,u2,u3,u4,hab]
   refine loop64 (a:=a) (b:=b) hl hab (fun hne env h4 => ?_) (fun he env => ?_) a.length 0 _ (by omega) (by omega) (by simp) (by simp) (by simp[hab]) (by simp)
   · simp -implicitDefEqProofs[h4,hne]
     exact cv_id
   · simp -implicitDefEqProofs[he]
     exact cv_id
 · simp -implicitDefEqProofs[i141,r141,v1,v2,v3,v4,u1,u2,u3,u4,show ¬ ((a.length:Int)=b.length)by omega,hab]
   have:a≠b:=fun e=>hab (by rw[e])
   simp[this]
   exact cv_id
theorem ok116 (hl:a.length≤100000):Ok Tryz.prog 116 [wv a,wv b] H (.ret (bl (decide (a=b)))) H:=by
 obtain⟨v1,v2,v3,v4,v5,v6⟩:=wv_facts a
 obtain⟨u1,u2,u3,u4,u5,u6⟩:=wv_facts b
 refine ok_fn hm Tryz.func116 c116 (by simp) fun hcl => ?_
 simp -implicitDefEqProofs[i116,r116,v1,v2,v3,v4,u1,u2,u3,u4]
 refine call_go (ok141 hl) ?_
 simp -implicitDefEqProofs
 exact cv_id
end
end Go.Proofs.YtogjmpkehjfecaaGreatDoor.Rc
namespace Go.Proofs.YtogjmpkehjfecaaGreatDoor.Rc
open Go.Ab
structure Fl where
 k:Int
 n:Int
 i:Int
 o:Int
deriving DecidableEq
def Fl.cells (f:Fl):List SV:=[i64 f.k,i64 f.n,i64 f.i,i64 f.o]
def Keep (G G':List AO):Prop:=∀ (j:Nat) (o:AO),G[j]? = some o->o.ty=3∨o.ty=136->G'[j]? = some o
theorem Keep.refl (G:List AO):Keep G G:=fun _ _ h _=>h
theorem Keep.trans {G G' G'':List AO} (h:Keep G G') (h':Keep G' G''):Keep G G'':=fun j o ho ht=>h' j o (h j o ho ht) ht
theorem Keep.app (G:List AO) (L:List AO):Keep G (G++L):=fun j o ho _=>by rw[List.getElem?_append_left (getElem?_lt ho)]; exact ho
structure Rep {τ:Type} (rp:SV) (b0:Nat) (R:Nat->List AO->τ->Prop) (rb:τ->Fl->Bool) (rn:τ->Fl->τ):Prop where
 vd:rp.vd=true
 ug:rp.ug=rp
 cell:rp.isCell=true
 flat:rp.flat=[rp]
 call:∀ c G s f,R (c+1) G s->OkCP Tryz.prog rp [.agg f.cells] G fun out G'=>out=.ret (bl (rb s f))∧R c G' (rn s f)∧Keep G G'
 app:∀ c G s o,R c G s->R c (G++[o]) s
 put:∀ c G s j o o',R c G s->G[j]? = some o->b0≤j->o.ty=3->R c (G.set j o') s
 len:∀ c G s,R c G s->b0≤G.length
 dec:∀ c G s,R (c+1) G s->R c G s
theorem Rep.decn {τ:Type} {rp:SV} {b0:Nat} {R:Nat->List AO->τ->Prop} {rb:τ->Fl->Bool} {rn:τ->Fl->τ} (h:Rep rp b0 R rb rn):∀ {k c:Nat} {G:List AO} {s:τ},R (k+c) G s->R c G s
 | 0,c,G,s,hr=>by simpa using hr
 | k+1,c,G,s,hr=>h.decn (k:=k) (h.dec _ _ _ (by rw[show k+c+1=k+1+c by omega]; exact hr))
section
variable {τ:Type} {rp:SV} {b0:Nat} {R:Nat->List AO->τ->Prop} {rb:τ->Fl->Bool} {rn:τ->Fl->τ} {g:Gm}
structure SkI (g:Gm) (rp:SV) (info:Int) (bs bi:Nat) (G:List AO):Prop where
 s:G[bs]? = some ⟨[g.wp,rp],136,0,true⟩
 i:G[bi]? = some ⟨[i64 info],3,0,true⟩
theorem SkI.keep {info:Int} {bs bi:Nat} {G G':List AO} (h:SkI g rp info bs bi G) (hk:Keep G G'):SkI g rp info bs bi G':=⟨hk _ _ h.s (.inr rfl),hk _ _ h.i (.inl rfl)⟩
theorem SkI.cs {info:Int} {bs bi:Nat} {G:List AO} (h:SkI g rp info bs bi G):objCells G bs 0=[g.wp,rp]:=objCells_of h.s rfl
theorem SkI.ci {info:Int} {bs bi:Nat} {G:List AO} (h:SkI g rp info bs bi G):objCells G bi 0=[i64 info]:=objCells_of h.i rfl
def dpn (g:Gm) (info:Int) (d:Int) (k:Nat):Int:=if infoAt g k=info then k else d
def DpI (g:Gm) (R:Nat->List AO->τ->Prop) (rp:SV) (info:Int) (bs bi bd c:Nat) (s:τ) (_:Nat) (G:List AO) (d:Int):Prop :=
 R c G s∧SkI g rp info bs bi G∧G[bd]? = some ⟨[i64 d],3,0,true⟩∧bd≠bs∧bd≠bi
set_option maxRecDepth 10000 in
theorem ok115 (hR:Rep rp b0 R rb rn) (hn:g.ns.length≤2000) {info:Int} {bs bi bd c:Nat} (hbd:b0≤bd) {s:τ} {m:Nat} {G:List AO} {d:Int} (hI:DpI g R rp info bs bi bd c s m G d) {k:Nat} (hk:k<g.ns.length) (a:Int) (m':Nat) :
 OkP Tryz.prog 115 [i64 k,i64 a,.ptr (.own bs 0 0 0 0) 0,.ptr (.own bi 0 0 0 0) 0,.ptr (.own bd 0 0 0 0) 0] G fun out G'=>out=.ret (bl (decide (dpn g info d k<0)))∧DpI g R rp info bs bi bd c s m' G' (dpn g info d k):=by
 obtain⟨h1,h2,h3,h4,h5⟩:=hI
 have hinf:infoAt g k=g.ns[k].i:=by unfold infoAt; rw[List.getElem?_eq_getElem hk]
 have hd:objCells G bd 0=[i64 d]:=objCells_of h3 rfl
 refine okP_fn hm Tryz.func115 c115 (by simp) fun hcl => ?_
 by_cases hi:g.ns[k].i=info
 · have e:dpn g info d k=k:=by unfold dpn; rw[if_pos (by rw[hinf]; exact hi)]
   rw[e]
   have hst:∀ f:AO->AO,Ab.setObj G bd f=G.set bd (f ⟨[i64 d],3,0,true⟩):=fun f=>setObj_some h3 f
   have hlt:=getElem?_lt h3
   have hc2:objCells (G.set bd (⟨[i64 k],3,0,true⟩:AO)) bd 0=[i64 k]:=objCells_of (o:=⟨[i64 k],3,0,true⟩) (List.getElem?_set_self hlt) rfl
   simp -implicitDefEqProofs[i115,r115,Gm.wp,sl,hk,h2.cs,h2.ci,hd,nds_g2 hk,nds_len,hi,hst,hc2]
   refine⟨by omega,_,_,⟨rfl,hR.put _ _ _ _ _ _ h1 h3 hbd rfl,⟨?_,?_⟩,List.getElem?_set_self hlt,h4,h5⟩,cv_id⟩
   · rw[List.getElem?_set_ne h4]; exact h2.s
   · rw[List.getElem?_set_ne h5]; exact h2.i
 · have e:dpn g info d k=d:=by unfold dpn; rw[if_neg (by rw[hinf]; exact hi)]
   rw[e]
   simp -implicitDefEqProofs[i115,r115,Gm.wp,sl,hk,h2.cs,h2.ci,hd,nds_g2 hk,nds_len,hi]
   exact⟨by omega,_,_,⟨rfl,h1,h2,h3,h4,h5⟩,cv_id⟩
theorem abv_len {pl:Int}:∀ (f node:Nat) (l:List (Int×Int)),(abv g pl (fun _ _ _=>true) (fun l k a=>l++[(infoAt g k,a)]) f node l).length≤l.length+f
 | 0,node,l=>by simp[abv]
 | f+1,node,l=>by
  unfold abv
  split
  · omega
  · split
    · omega
    · split
      · rw[if_pos rfl]
        refine Nat.le_trans (abv_len (pl:=pl) f _ _) ?_
        simp only[List.length_append,List.length_singleton]
        omega
      · have:=abv_len (pl:=pl) f (gi g.wk.2.P node).toNat l
        omega
theorem way_len {node:Nat} {pl:Int}:(g.way node pl).length≤g.ns.length:=by
 unfold Gm.way Gm.up
 have:=abv_len (g:=g) (pl:=pl) g.ns.length node []
 simpa using this
def Gm.deep (g:Gm) (node:Nat) (pl info:Int):Int:=abv g pl (fun d k _=>decide (dpn g info d k<0)) (fun d k _=>dpn g info d k) g.ns.length node (-1)
def seekS (g:Gm) (rb:τ->Fl->Bool) (rn:τ->Fl->τ) (info pl n0:Int) (first:List (Int×Int)):List Int->τ->Bool×τ
 | [],s=>(true,s)
 | v::r,s =>
  let d:=g.deep v.toNat pl info
  if 0≤d∧rb s ⟨1,v,info,d⟩=false then(false,rn s ⟨1,v,info,d⟩)else
  let s1:=if 0≤d then rn s ⟨1,v,info,d⟩else s
  if g.way v.toNat pl=first then seekS g rb rn info pl n0 first r s1 else
  if rb s1 ⟨2,v,info,n0⟩=true then seekS g rb rn info pl n0 first r (rn s1 ⟨2,v,info,n0⟩)else(false,rn s1 ⟨2,v,info,n0⟩)
set_option maxRecDepth 10000 in
theorem loop40 (hW:Wg g) (hR:Rep rp b0 R rb rn) {info pl n0:Int} {bs bi:Nat} {nodes:List Int} {first:List (Int×Int)} (hn0:nodes.head? = some n0) (hns:∀ v∈nodes,0≤v∧v<g.ns.length) (hnl:nodes.length≤2000) (hfl:first.length≤2000)
 {N:Nat} {K:XE->Env->List AO->Prop} {Q:Bool×τ}
 {c:Nat} (hret:Q.1=false->∀ env G,R c G Q.2->env.get 6=bl false->K .ret env G) (hexit:Q.1=true->∀ env G,R c G Q.2->K (.exit 0) env G) :
 ∀ (n i:Nat) (env:Env) (G:List AO) (s:τ),i+n=nodes.length->R (2*n+c) G s->SkI g rp info bs bi G->seekS g rb rn info pl n0 first (nodes.drop i) s=Q →
  env.get 2=.slc (ints nodes) nodes.length->env.get 3=.ptr (.own bs 0 0 0 0) 0->env.get 4=.ptr (.own bi 0 0 0 0) 0->env.get 7=i64 pl->env.get 8=wv first->env.get 29=.slc (ints nodes) nodes.length->env.get 30=i64 nodes.length->env.get 31=i64 i →
  LI Tryz.prog N drawB l87_0 env G K:=by
 have hgn:=hW.gd.n
 have hwp:g.wp.vd=true∧g.wp.ug=g.wp∧g.wp.flat=[g.wp]∧g.wp.isCell=true:=⟨rfl,rfl,rfl,rfl⟩
 intro n
 induction n with
 | zero =>
  intro i env G s hi hRG hS hQ h2 h3 h4 h7 h8 h29 h30 h31
  refine li_go hm l87_0.eq_1 ?_
  have e:i=nodes.length:=by omega
  subst e
  rw[List.drop_length]at hQ
  subst hQ
  simp -implicitDefEqProofs[h30,h31]
  exact hexit rfl _ _ (by simpa[seekS]using hRG)
 | succ n ih =>
  intro i env G s hi hRG hS hQ h2 h3 h4 h7 h8 h29 h30 h31
  refine li_go hm l87_0.eq_1 ?_
  have hlt:i<nodes.length:=by omega
  have w1:IntKind.i64.wrap ((i:Int)+1)=((i+1:Nat):Int):=wrap_succ (by omega)
  have hv:=hns _ (List.getElem_mem hlt)
  have hvn:nodes[i]=((nodes[i].toNat:Nat):Int):=by omega
  rw[List.drop_eq_getElem_cons hlt]at hQ
  unfold seekS at hQ
  have hpos:0<nodes.length:=by omega
  have hhead:(ints nodes).head? = some (i64 n0):=by
   cases hc:nodes with
   | nil=>rw[hc]at hpos; simp at hpos
   | cons y r=>rw[hc]at hn0; simp at hn0; subst hn0; rfl
  have hbs:=getElem?_lt hS.s
  have hbi:=getElem?_lt hS.i
  simp -implicitDefEqProofs[h2,h3,h4,h7,h8,h29,h30,h31,hlt,objCells_app _ hbs,objCells_app _ hbi,hS.cs,hS.ci,hwp.1,hwp.2.1]
  refine⟨by omega,?_⟩
  have h67:=ok114 (g:=g) (σ:=Int) (Inv:=DpI g R rp info bs bi G.length (2*n+c+1+1) s) (vf:=.fn (.func 115) [] [.ptr (.own bs 0 0 0 0) 0,.ptr (.own bi 0 0 0 0) 0,.ptr (.own G.length 0 0 0 0) 0]) (nb:=fun d k _=>decide (dpn g info d k<0)) (nx:=fun d k _=>dpn g info d k) (pl:=pl) hW ⟨rfl,rfl⟩
   (fun m G s k a hkm hm' hI=>okCP_of (by simpa using ok115 hR hgn (hR.len _ _ _ hRG) hI (by omega) a k))
   (fun m G s o hI=>⟨hR.app _ _ _ _ hI.1,hI.2.1.keep (Keep.app _ _),by rw[List.getElem?_append_left (getElem?_lt hI.2.2.1)]; exact hI.2.2.1,hI.2.2.2⟩)
   (fun m k G s hkm hI=>hI) (G:=G++[⟨[i64 (-1)],3,0,true⟩]) (s := -1) (node:=nodes[i].toNat) (by omega)
   ⟨hR.app _ _ _ _ (by rw[show 2*n+c+1+1=2*(n+1)+c by omega]; exact hRG),hS.keep (Keep.app _ _),by simp,by omega,by omega⟩
  rw[←hvn]at h67
  refine call_goP h67 (fun out G2 hP => ?_)
  obtain⟨rfl,m',hR2,hS2,hd2,hb1,hb2⟩:=hP
  have hdeep:abv g pl (fun d k _=>decide (dpn g info d k<0)) (fun d k _=>dpn g info d k) g.ns.length nodes[i].toNat (-1)=g.deep nodes[i].toNat pl info:=rfl
  rw[hdeep]at hd2
  simp only at hQ
  generalize hgd:g.deep nodes[i].toNat pl info=d at hd2 hQ
  have hcd:objCells G2 G.length 0=[i64 d]:=objCells_of hd2 rfl
  by_cases h0:0≤d
  · simp -implicitDefEqProofs[h2,h3,h4,h7,h8,h29,h30,h31,hcd,h0,hS2.cs,hS2.ci,hR.vd,hR.ug]
    refine call_gd (hR.call _ _ _ ⟨1,nodes[i],info,d⟩ hR2) (fun out G3 hP => ?_)
    obtain⟨rfl,hR3,hK3⟩:=hP
    have hS3:=hS2.keep hK3
    cases hb:rb s ⟨1,nodes[i],info,d⟩with
    | false =>
     rw[if_pos ⟨h0,hb⟩]at hQ
     subst hQ
     simp -implicitDefEqProofs
     exact hret rfl _ _ (hR.decn (k:=2*n+1) (by rw[show 2*n+1+c=2*n+c+1 by omega]; exact hR3)) (by simp)
    | true =>
     rw[if_neg (by rw[hb]; simp),if_pos h0]at hQ
     simp -implicitDefEqProofs[h2,h3,h4,h7,h8,h29,h30,h31,hS3.cs,hS3.ci,hR.vd,hR.ug,hwp.1,hwp.2.1]
     have h50:=ok113 (H:=G3) hW (node:=nodes[i].toNat) (by omega) pl
     rw[←hvn]at h50
     refine call_go h50 ?_
     simp -implicitDefEqProofs[h8]
     refine call_go (ok116 (a:=g.way nodes[i].toNat pl) (b:=first) (by have:=way_len (g:=g) (node:=nodes[i].toNat) (pl:=pl); omega)) ?_
     by_cases hw:g.way nodes[i].toNat pl=first
     · rw[if_pos hw]at hQ
       simp -implicitDefEqProofs[hw,h31]
       rw[w1]
       refine ih (i+1) _ _ _ (by omega) (hR.dec _ _ _ (by rw[show 2*n+c+1=(2*n+c)+1 by omega]at hR3; exact hR3)) hS3 hQ ?_ ?_ ?_ ?_ ?_ ?_ ?_ ?_
       · simp[h2]
       · simp[h3]
       · simp[h4]
       · simp[h7]
       · simp[h8]
       · simp[h29]
       · simp[h30]
       · simp
     · rw[if_neg hw]at hQ
       simp -implicitDefEqProofs[hw,h2,h3,h4,hS3.cs,hS3.ci,hR.vd,hR.ug,hhead]
       refine⟨hpos,hpos,?_⟩
       refine call_cP (hR.call _ _ _ ⟨2,nodes[i],info,n0⟩ hR3) (fun out G4 hP => ?_)
       obtain⟨rfl,hR4,hK4⟩:=hP
       have hS4:=hS3.keep hK4
       cases hb2:rb (rn s ⟨1,nodes[i],info,d⟩) ⟨2,nodes[i],info,n0⟩with
       | true =>
        rw[hb2,if_pos rfl]at hQ
        simp -implicitDefEqProofs[h2,h3,h4,hS4.cs,hS4.ci,hR.vd,hR.ug,hhead,h31,hpos]
        rw[w1]
        refine ih (i+1) _ _ _ (by omega) hR4 hS4 hQ ?_ ?_ ?_ ?_ ?_ ?_ ?_ ?_
        · simp[h2]
        · simp[h3]
        · simp[h4]
        · simp[h7]
        · simp[h8]
        · simp[h29]
        · simp[h30]
        · simp
       | false =>
        rw[hb2,if_neg (by simp)]at hQ
        subst hQ
        simp -implicitDefEqProofs[h2,h3,h4,hS4.cs,hS4.ci,hR.vd,hR.ug,hhead,hpos]
        exact hret rfl _ _ (hR.decn (k:=2*n) hR4) (by simp)
  · rw[if_neg (fun h=>h0 h.1),if_neg h0]at hQ
    simp -implicitDefEqProofs[h2,h3,h4,h7,h8,h29,h30,h31,hcd,h0,hS2.cs,hS2.ci,hR.vd,hR.ug,hwp.1,hwp.2.1]
    have h50:=ok113 (H:=G2) hW (node:=nodes[i].toNat) (by omega) pl
    rw[←hvn]at h50
    refine call_go h50 ?_
    simp -implicitDefEqProofs[h8]
    refine call_go (ok116 (a:=g.way nodes[i].toNat pl) (b:=first) (by have:=way_len (g:=g) (node:=nodes[i].toNat) (pl:=pl); omega)) ?_
    by_cases hw:g.way nodes[i].toNat pl=first
    · rw[if_pos hw]at hQ
      simp -implicitDefEqProofs[hw,h31]
      rw[w1]
      refine ih (i+1) _ _ _ (by omega) (hR.dec _ _ _ (hR.dec _ _ _ hR2)) hS2 hQ ?_ ?_ ?_ ?_ ?_ ?_ ?_ ?_
      · simp[h2]
      · simp[h3]
      · simp[h4]
      · simp[h7]
      · simp[h8]
      · simp[h29]
      · simp[h30]
      · simp
    · rw[if_neg hw]at hQ
      simp -implicitDefEqProofs[hw,h2,h3,h4,hS2.cs,hS2.ci,hR.vd,hR.ug,hhead]
      refine⟨hpos,hpos,?_⟩
      refine call_cP (hR.call _ _ _ ⟨2,nodes[i],info,n0⟩ (hR.dec _ _ _ hR2)) (fun out G4 hP => ?_)
      obtain⟨rfl,hR4,hK4⟩:=hP
      have hS4:=hS2.keep hK4
      cases hb2:rb s ⟨2,nodes[i],info,n0⟩with
      | true =>
       rw[hb2,if_pos rfl]at hQ
       simp -implicitDefEqProofs[h2,h3,h4,hS4.cs,hS4.ci,hR.vd,hR.ug,hhead,h31,hpos]
       rw[w1]
       refine ih (i+1) _ _ _ (by omega) hR4 hS4 hQ ?_ ?_ ?_ ?_ ?_ ?_ ?_ ?_
       · simp[h2]
       · simp[h3]
       · simp[h4]
       · simp[h7]
       · simp[h8]
       · simp[h29]
       · simp[h30]
       · simp
      | false =>
       rw[hb2,if_neg (by simp)]at hQ
       subst hQ
       simp -implicitDefEqProofs[h2,h3,h4,hS4.cs,hS4.ci,hR.vd,hR.ug,hhead,hpos]
       exact hret rfl _ _ (hR.decn (k:=2*n) hR4) (by simp)
set_option maxRecDepth 10000 in
theorem ok87 (hW:Wg g) (hR:Rep rp b0 R rb rn) {info:Nat} (hinfo:info<g.is.length) {nodes:List Int} {n0:Int} (hn0:nodes.head? = some n0) (hns:∀ v∈nodes,0≤v∧v<g.ns.length) (hnl:nodes.length≤2000) {G:List AO} {s:τ} {c:Nat} (hRG:R (2*nodes.length+c) G s) :
 OkP Tryz.prog 87 [.agg [g.wp,rp],i64 info,.slc (ints nodes) nodes.length] G fun out G'=>out=.ret (bl (seekS g rb rn info g.is[info].1 n0 (g.way n0.toNat g.is[info].1) nodes s).1)∧R c G' (seekS g rb rn info g.is[info].1 n0 (g.way n0.toNat g.is[info].1) nodes s).2:=by
 have hgn:=hW.gd.n
 have hwp:g.wp.vd=true∧g.wp.ug=g.wp∧g.wp.flat=[g.wp]∧g.wp.isCell=true:=⟨rfl,rfl,rfl,rfl⟩
 have hpos:0<nodes.length:=by cases nodes with | nil=>simp at hn0 | cons y r=>simp
 have hhead:(ints nodes).head? = some (i64 n0):=by
  cases hc:nodes with
  | nil=>rw[hc]at hpos; simp at hpos
  | cons y r=>rw[hc]at hn0; simp at hn0; subst hn0; rfl
 have hv:=hns n0 (List.mem_of_head? hn0)
 have hvn:n0=((n0.toNat:Nat):Int):=by omega
 refine okP_fn hm Tryz.func87 c87 (by simp) fun hcl => ?_
 simp -implicitDefEqProofs[i87,r87,Gm.wp,sl,hR.vd,hR.ug,hR.flat,hR.cell,hhead,hpos,hinfo,infs_g0 hinfo,infs_at hinfo,infs_len]
 refine⟨by omega,?_⟩
 have h50:=fun H=>ok113 (H:=H) hW (node:=n0.toNat) (by omega) g.is[info].1
 rw[←hvn]at h50
 refine callq_go (fun _=>h50 _) ?_
 simp -implicitDefEqProofs
 refine loop40 (g:=g) (R:=R) (rb:=rb) (rn:=rn) hW hR (info:=info) (pl:=g.is[info].1) (n0:=n0) (bs:=G.length) (bi:=G.length+1) (nodes:=nodes) (first:=g.way n0.toNat g.is[info].1) hn0 hns hnl (by have:=way_len (g:=g) (node:=n0.toNat) (pl:=g.is[info].1); omega)
  (c:=c) (fun hQ env G' hR' h6 => ?_) (fun hQ env G' hR' => ?_) nodes.length 0 _ _ s (by omega) (by have:=hR.app _ _ _ ⟨[g.wp,rp],136,0,true⟩ hRG; have:=hR.app _ _ _ ⟨[i64 info],3,0,true⟩ this; rw[List.append_assoc]at this; exact this) ⟨by simp[Gm.wp,sl],by simp⟩ rfl
  (by simp) (by simp) (by simp) (by simp) (by simp) (by simp) (by simp) (by simp)
 · simp -implicitDefEqProofs[h6]
   exact⟨_,_,⟨by rw[show seekS g rb rn info g.is[info].1 n0 (g.way n0.toNat g.is[info].1) nodes s=seekS g rb rn info g.is[info].1 n0 (g.way n0.toNat g.is[info].1) (nodes.drop 0) s from rfl,hQ],hR'⟩,cv_id⟩
 · simp -implicitDefEqProofs
   exact⟨_,_,⟨by rw[show seekS g rb rn info g.is[info].1 n0 (g.way n0.toNat g.is[info].1) nodes s=seekS g rb rn info g.is[info].1 n0 (g.way n0.toNat g.is[info].1) (nodes.drop 0) s from rfl,hQ],hR'⟩,cv_id⟩
end
end Go.Proofs.YtogjmpkehjfecaaGreatDoor.Rc
namespace Go.Proofs.YtogjmpkehjfecaaGreatDoor.Rc
open Go.Ab
def rpP (n:Nat):SV:=.fn (.func 85) [] [.ptr (.own (n+2) 0 0 0 0) 0]
def RP (g:Gm) (H:List AO) (_:Nat) (G:List AO) (b:Bool):Prop:=∃ L,G=H++L∧L[2]? = some ⟨[bl b],4,0,true⟩∧L[3]? = some ⟨[g.wp,rpP H.length],136,0,true⟩
def nxP (_:Bool) (f:Fl):Bool:=decide (f.k≠2)
section
variable {H:List AO} {g:Gm}
theorem set_app {G:List AO} {j:Nat} (hj:H.length≤j) {L:List AO} (hG:G=H++L) (o:AO):G.set j o=H++L.set (j-H.length) o:=by
 subst hG
 rw[List.set_append_right _ _ hj]
theorem ok85 {c c':Nat} {G:List AO} {b:Bool} (f:Fl) (hI:RP g H c G b) :
 OkP Tryz.prog 85 [.agg f.cells,.ptr (.own (H.length+2) 0 0 0 0) 0] G fun out G'=>out=.ret (bl (nxP b f))∧RP g H c' G' (nxP b f)∧Keep G G':=by
 obtain⟨L,rfl,h2,h3⟩:=hI
 refine okP_fn hm Tryz.func85 c85 (by simp) fun hcl => ?_
 have hl2:=getElem?_lt h2
 have e1:∀ X,objCells (L++X) 2 0=[bl b]:=fun X=>objCells_of (o:=⟨[bl b],4,0,true⟩) (by rw[List.getElem?_append_left hl2]; exact h2) rfl
 have e2:∀ (c:List SV) X,objCells (L.set 2 (⟨c,4,0,true⟩:AO)++X) 2 0=c:=fun c X=>objCells_of (o:=⟨c,4,0,true⟩) (by rw[List.getElem?_append_left (by simpa using hl2),List.getElem?_set_self hl2]) rfl
 simp -implicitDefEqProofs[i85,r85,Fl.cells,setObj_old h2,e1,e2]
 refine⟨_,_,⟨?_,⟨_,rfl,?_,?_⟩,fun j o ho ht => ?_⟩,cv_id⟩
 · simp[nxP]
 · rw[List.getElem?_append_left (by simpa using hl2),List.getElem?_set_self hl2]; simp[nxP]
 · rw[List.getElem?_append_left (by simpa using getElem?_lt h3),List.getElem?_set_ne (by omega)]; exact h3
 · by_cases hj:j<H.length
   · rw[List.getElem?_append_left hj]at ho ⊢; exact ho
   · rw[List.getElem?_append_right (by omega)]at ho ⊢
     by_cases e:2=j-H.length
     · rw[←e,h2]at ho; cases ho; simp at ht
     · rw[List.getElem?_append_left (by simpa using getElem?_lt ho),List.getElem?_set_ne e]; exact ho
theorem repP:Rep (rpP H.length) H.length (RP g H) nxP nxP where
 vd:=rfl
 ug:=rfl
 cell:=rfl
 flat:=rfl
 call:=fun c G s f hI=>okCP_of (by simpa using ok85 f hI)
 app:=fun c G s o ⟨L,hG,h2,h3⟩=>⟨L++[o],by rw[hG,List.append_assoc],by rw[List.getElem?_append_left (getElem?_lt h2)]; exact h2,by rw[List.getElem?_append_left (getElem?_lt h3)]; exact h3⟩
 put:=fun c G s j o o' ⟨L,hG,h2,h3⟩ ho hj ht=>by
  subst hG
  rw[List.getElem?_append_right hj]at ho
  refine⟨L.set (j-H.length) o',by rw[List.set_append_right _ _ hj],?_,?_⟩
  · rw[List.getElem?_set_ne (fun e=>by rw[e,h2]at ho; cases ho; cases ht)]; exact h2
  · rw[List.getElem?_set_ne (fun e=>by rw[e,h3]at ho; cases ho; cases ht)]; exact h3
 len:=fun c G s ⟨L,hG,_⟩=>by subst hG; simp
 dec:=fun c G s h=>h
def setsL {τ:Type} (g:Gm) (rb:τ->Fl->Bool) (rn:τ->Fl->τ) (sel:Int->Bool) (stop:Bool):Nat->Nat->τ->τ
 | 0,_,s=>s
 | f+1,i,s =>
   match g.sets[i]?,g.is[i]? with
   | some nodes,some inf =>
     if sel inf.1=true then
       (let r:=seekS g rb rn i inf.1 (nodes.headD 0) (g.way (nodes.headD 0).toNat inf.1) nodes s
        if stop=true∧r.1=false then r.2 else setsL g rb rn sel stop f (i+1) r.2)
     else setsL g rb rn sel stop f (i+1) s
   | _,_=>s
def Gm.perf (g:Gm) (pl:Int):Bool:=setsL g nxP nxP (fun p=>decide (p=pl)) true g.is.length 0 true
theorem Wg.ne (h:Wg g):∀ k (hk:k<g.sets.length),g.sets[k]≠[]:=by
 intro k hk e
 have hse:=h.se
 rw[setsE_eq]at hse
 unfold Gm.setsR at hse
 split at hse
 · cases hse
 · split at hse
   · cases hse
   · rename_i h1
     exact h1 (by rw[←e]; exact List.getElem_mem hk)
theorem occ_lt {s:Nat}:∀ {l:List Nd} {o:Nat} {a:Int},a∈occ s l o->a<o+l.length
 | [],o,a,h=>by simp[occ]at h
 | x::r,o,a,h=>by
  unfold occ at h
  split at h
  · rcases List.mem_cons.1 h with rfl | h
    · simp; omega
    · have:=occ_lt h; simp; omega
  · have:=occ_lt h; simp; omega
theorem occ_len {s:Nat}:∀ {l:List Nd} {o:Nat},(occ s l o).length≤l.length
 | [],o=>by simp[occ]
 | x::r,o=>by
  unfold occ
  have:=occ_len (s:=s) (l:=r) (o:=o+1)
  split<;>simp<;>omega
theorem sets_occ {k:Nat} (hk:k<g.sets.length):g.sets[k]=occ k g.ns 0:=by
 have:=sets_at (g:=g) (s:=k) (by rw[←sets_len]; exact hk)
 rwa [List.getD_eq_getElem?_getD,List.getElem?_eq_getElem hk,Option.getD_some]at this
theorem sets_mem {k:Nat} (hk:k<g.sets.length) {v:Int} (hv:v∈g.sets[k]):0≤v∧v<g.ns.length:=by
 rw[sets_occ hk]at hv
 exact⟨occ_ge hv,by have:=occ_lt hv; simpa using this⟩
theorem sets_lenk {k:Nat} (hk:k<g.sets.length):g.sets[k].length≤g.ns.length:=by rw[sets_occ hk]; exact occ_len
set_option maxRecDepth 10000 in
theorem loop14 (hW:Wg g) {pl:Int} {N:Nat} {K:XE->Env->List AO->Prop} {Q:Bool}
 (hexit:∀ env L,L[2]? = some ⟨[bl Q],4,0,true⟩->env.get 9=.ptr (.own (H.length+2) 0 0 0 0) 0->K (.exit 0) env (H++L)) :
 ∀ (n i:Nat) (env:Env) (G:List AO) (s:Bool),i+n=g.is.length->RP g H 0 G s->setsL g nxP nxP (fun p=>decide (p=pl)) true n i s=Q →
  env.get 1=i64 pl->env.get 6=g.wp->env.get 9=.ptr (.own (H.length+2) 0 0 0 0) 0->env.get 10=.ptr (.own (H.length+3) 0 0 0 0) 0->env.get 34=g.setsV->env.get 35=i64 g.is.length->env.get 36=i64 i →
  LI Tryz.prog N drawB l52_0 env G K:=by
 have hgi:=hW.gd.i
 have hgn:=hW.gd.n
 have hsl:g.sets.length=g.is.length:=sets_len
 intro n
 induction n with
 | zero =>
  intro i env G s hi hR hQ h1 h6 h9 h10 h34 h35 h36
  refine li_go hm l52_0.eq_1 ?_
  have e:i=g.is.length:=by omega
  subst e
  simp -implicitDefEqProofs[h35,h36]
  obtain⟨L,rfl,h2,h3⟩:=hR
  simp only[setsL]at hQ
  subst hQ
  exact hexit _ L h2 (by simp[h9])
 | succ n ih =>
  intro i env G s hi hR hQ h1 h6 h9 h10 h34 h35 h36
  refine li_go hm l52_0.eq_1 ?_
  have hlt:i<g.is.length:=by omega
  have hls:i<g.sets.length:=by omega
  have w1:IntKind.i64.wrap ((i:Int)+1)=((i+1:Nat):Int):=wrap_succ (by omega)
  have hne:=hW.ne i hls
  unfold setsL at hQ
  rw[List.getElem?_eq_getElem hlt,List.getElem?_eq_getElem hls]at hQ
  simp only at hQ
  by_cases hp:g.is[i].1=pl
  · rw[if_pos (by simpa using hp)]at hQ
    obtain⟨L,rfl,h2,h3⟩:=id hR
    have ec:objCells (H++L) (H.length+3) 0=[g.wp,rpP H.length]:=by rw[objCells_new]; exact objCells_of h3 rfl
    simp -implicitDefEqProofs[h1,h6,h9,h10,h34,h35,h36,Gm.wp,sl,Gm.setsV,hlt,hls,slN_at hls,slN_ne hne,infs_g0 hlt,infs_len,infs_at hlt,hp,ec]
    obtain⟨n0,hn0⟩:∃ n0,g.sets[i].head? = some n0:=by
     cases h:g.sets[i]with
     | nil=>exact(hne h).elim
     | cons y r=>exact⟨y,rfl⟩
    have hd0:g.sets[i].headD 0=n0:=by rw[List.headD_eq_head?_getD,hn0]; rfl
    have h48:=ok87 (rp:=rpP H.length) (R:=RP g H) hW repP hlt hn0 (fun v hv=>sets_mem hls hv) (by have:=sets_lenk (g:=g) hls; omega) (c:=0) (show RP g H _ (H++L) s from hR)
    rw[hp]at h48
    rw[hd0,hp]at hQ
    refine call_goP (OkP.strip (by show OkP _ _ [.agg [g.wp,rpP H.length],i64 i,.slc (ints g.sets[i]) g.sets[i].length] _ _; exact h48)) ?_
    rintro out G' ⟨rfl,hR'⟩
    generalize seekS g nxP nxP i pl n0 (g.way n0.toNat pl) g.sets[i] s=q at hR' hQ
    obtain⟨b,s'⟩:=q
    cases b with
    | false =>
     rw[if_pos (by simp)]at hQ
     subst hQ
     simp -implicitDefEqProofs
     obtain⟨L',rfl,h2',h3'⟩:=hR'
     exact hexit _ L' h2' (by simp[h9])
    | true =>
     rw[if_neg (by simp)]at hQ
     simp -implicitDefEqProofs[h36]
     rw[w1]
     refine ih (i+1) _ _ _ (by omega) hR' hQ ?_ ?_ ?_ ?_ ?_ ?_ ?_
     · simp[h1]
     · simp[h6,Gm.wp,sl]
     · simp[h9]
     · simp[h10]
     · simp[h34,Gm.setsV]
     · simp[h35]
     · simp
  · rw[if_neg (by simpa using hp)]at hQ
    simp -implicitDefEqProofs[h1,h6,h9,h10,h34,h35,h36,Gm.wp,sl,Gm.setsV,hlt,hls,slN_at hls,slN_ne hne,infs_g0 hlt,infs_len,infs_at hlt,hp]
    rw[w1]
    refine ih (i+1) _ _ _ (by omega) hR hQ ?_ ?_ ?_ ?_ ?_ ?_ ?_
    · simp[h1]
    · simp[h6,Gm.wp,sl]
    · simp[h9]
    · simp[h10]
    · simp[h34,Gm.setsV]
    · simp[h35]
    · simp
def Gm.perfE (g:Gm) (pl:Int):Int:=if g.formE≠0 then g.formE else if pl<0∨g.pl≤pl then 2 else 0
def Gm.perfV (g:Gm) (pl:Int):Bool:=if g.perfE pl=0 then g.perf pl else false
set_option maxRecDepth 10000 in
theorem ok52 (pl:Int):Ok Tryz.prog 52 [.agg g.cells,i64 pl] H (.ret (.tup [bl (g.perfV pl),i64 (g.perfE pl)])) H:=by
 refine ok_fn hm Tryz.func52 c52 (by simp) fun hcl => ?_
 simp -implicitDefEqProofs[i52,r52,Gm.cells]
 have hh:=fun H=>ok83 (H:=H) (g:=g)
 simp only[Gm.cells]at hh
 refine call_go (hh _) ?_
 by_cases h:g.formE=0
 · rw[walked_ok h]
   have hW:=wg_of h
   have hp1:=hW.gd.p1
   have hp4:=hW.gd.p4
   have w2:IntKind.i64.wrap (g.pl-1)=g.pl-1:=wrap_id (by omega) (by omega)
   simp -implicitDefEqProofs[w2]
   refine call_go (ok84 (IsI.own0 H _ 1 0 [pl] [] 3 rfl) (by simp) 0 (g.pl-1)) ?_
   by_cases hp:pl<0∨g.pl-1<pl
   · have e:within 0 (g.pl-1) [pl]=2:=by rw[within1,if_pos hp]
     have hE:g.perfE pl=2:=by unfold Gm.perfE; rw[if_neg (by simpa using h),if_pos (by omega)]
     rw[e]
     simp -implicitDefEqProofs
     refine cv_fz 2 hcl rfl ?_
     simp[Gm.perfV,hE]
   · have e:within 0 (g.pl-1) [pl]=0:=by rw[within1,if_neg hp]
     have hE:g.perfE pl=0:=by unfold Gm.perfE; rw[if_neg (by simpa using h),if_neg (by omega)]
     rw[e]
     have hwp:g.wp.vd=true∧g.wp.ug=g.wp∧g.wp.flat=[g.wp]∧g.wp.isCell=true:=⟨rfl,rfl,rfl,rfl⟩
     simp -implicitDefEqProofs[hwp.1,hwp.2.1,hwp.2.2.1,hwp.2.2.2]
     refine⟨by simp[partOk,Gm.wp],call_go (ok86 hW.gd) ?_⟩
     simp -implicitDefEqProofs[Gm.setsV]
     refine loop14 (g:=g) hW (pl:=pl) (Q:=g.perf pl) (fun env L h2 h9 => ?_) g.is.length 0 _ _ true (by omega) ⟨_,rfl,rfl,rfl⟩ rfl (by simp) (by simp) (by simp) (by simp) (by simp[Gm.setsV]) (by simp) (by simp)
     have ec:objCells (H++L) (H.length+2) 0=[bl (g.perf pl)]:=by rw[objCells_new]; exact objCells_of h2 rfl
     simp -implicitDefEqProofs[h9,ec]
     refine cv_fz 2 hcl rfl ?_
     simp[Gm.perfV,hE]
 · obtain⟨p,e,_⟩:=walked_err h
   rw[e]
   have hE:g.perfE pl=g.formE:=by unfold Gm.perfE; rw[if_pos h]
   simp -implicitDefEqProofs[h]
   refine cv_fz 2 hcl rfl ?_
   simp[Gm.perfV,hE,h]
end
end Go.Proofs.YtogjmpkehjfecaaGreatDoor.Rc
namespace Go.Proofs.YtogjmpkehjfecaaGreatDoor.Rc
open Go.Ab
def fls:List Fl->List SV
 | []=>[]
 | x::r=>i64 x.k::i64 x.n::i64 x.i::i64 x.o::fls r
def fv (l:List Fl):SV:=if l=[]then nl else .slc (fls l) l.length
def nxF (l:List Fl) (f:Fl):List Fl:=l++[f]
section
variable {H:List AO} {g:Gm}
def Gm.flaws (g:Gm):List Fl:=setsL g (fun _ _=>true) nxF (fun _=>true) false g.is.length 0 []
end
end Go.Proofs.YtogjmpkehjfecaaGreatDoor.Rc
namespace Go.Proofs.YtogjmpkehjfecaaGreatDoor.Rc
open Go.Ab
def ws (l:List (Int×Int)):SV:=.slc (infs l) l.length
end Go.Proofs.YtogjmpkehjfecaaGreatDoor.Rc
namespace Go.Proofs.YtogjmpkehjfecaaGreatDoor.Rc
open Go.Ab
section
variable {H:List AO} {g:Gm} {a b:List (Int×Int)}
theorem Wg.ty (h:Wg g) {x:Nd} (hx:x∈g.ns) (hk:x.k=2):g.is[x.i.toNat]? = some (x.p,(x.nx.length:Int)):=by
 have hse:=h.se
 unfold Gm.setsE at hse
 by_cases hb:∃ x∈g.ns,x.tyBad g
 · rw[if_pos hb]at hse; cases hse
 · by_cases h1:g.is[x.i.toNat]? = some (x.p,(x.nx.length:Int))
   · exact h1
   · exact(hb ⟨x,hx,hk,h1⟩).elim
def fr (l:List Fl):AO:=⟨fls l,133,l.length,true⟩
def fs (l:List Fl):SV:=.slc (fls l) l.length
end
end Go.Proofs.YtogjmpkehjfecaaGreatDoor.Rc
namespace Go.Proofs.YtogjmpkehjfecaaGreatDoor.Rc
open Go.Ab
end Go.Proofs.YtogjmpkehjfecaaGreatDoor.Rc
namespace Go.Proofs.YtogjmpkehjfecaaGreatDoor.Rc
open Go.Ab
end Go.Proofs.YtogjmpkehjfecaaGreatDoor.Rc
namespace Go.Proofs.YtogjmpkehjfecaaGreatDoor.Rc
open Go.Ab Go.Ab.Shr
structure TS where
 rnd:Int
 seed:Int
 A:Nat->List Int
 P:Nat->List Int
 S:Nat->List Int
 V:List Int
 R:List Int
 O:List Int
 ord:List Int
structure TC where
 M:List Int
 F:List Int
def pAo (H:List AO) (_g:Gm):Nat:=H.length
def pA (H:List AO) (_g:Gm) (i:Nat):Nat:=H.length+1+i
def pPo (H:List AO) (g:Gm):Nat:=H.length+1+g.is.length
def pP (H:List AO) (g:Gm) (i:Nat):Nat:=H.length+2+g.is.length+i
def pM (H:List AO) (g:Gm):Nat:=H.length+4+2*g.is.length
def pF (H:List AO) (g:Gm):Nat:=H.length+5+2*g.is.length
def pSo (H:List AO) (g:Gm):Nat:=H.length+7+2*g.is.length
def pS (H:List AO) (g:Gm) (i:Nat):Nat:=H.length+9+2*g.is.length+2*i
def pW (H:List AO) (g:Gm):Nat:=H.length+8+4*g.is.length
def pV (H:List AO) (g:Gm):Nat:=H.length+9+4*g.is.length
def pR (H:List AO) (g:Gm):Nat:=H.length+10+4*g.is.length
def pO (H:List AO) (g:Gm):Nat:=H.length+11+4*g.is.length
def pE (H:List AO) (g:Gm):Nat:=H.length+12+4*g.is.length
def outs (I:Nat) (p:Nat->Nat) (n:Nat->Nat) (ver:Nat):List SV:=(List.range I).map fun i=>.own (p i) 0 (n i) 1 ver
def wHead (g:Gm) (H:List AO) (s:TS):List SV :=
 [i64 g.pl,.slc (nds g.ns) g.ns.length,.slc (infs g.is) g.is.length,.own (pM H g) 0 g.ns.length 1 1,.own (pF H g) 0 g.is.length 1 1,i64 s.rnd,i64 s.seed,.own (pAo H g) 0 g.is.length 1 0,.own (pPo H g) 0 g.is.length 1 0,.own (pSo H g) 0 g.is.length 1 0,
  .own (pV H g) 0 g.ns.length 4 1,.own (pR H g) 0 g.ns.length 4 1,.own (pO H g) 0 g.ns.length 4 1]
def wObj (g:Gm) (H:List AO) (s:TS):AO:=oI (wHead g H s) s.ord [] 73 0
def Gm.acts (g:Gm) (i:Nat):Nat:=((g.is.getD i (0,0)).2).toNat
structure TL (g:Gm) (c:TC) (s:TS):Prop where
 A:∀ i,i<g.is.length->(s.A i).length=g.acts i
 P:∀ i,i<g.is.length->(s.P i).length=g.acts i
 S:∀ i,i<g.is.length->(s.S i).length=g.acts i
 V:s.V.length=4*g.ns.length
 R:s.R.length=4*g.ns.length
 O:s.O.length=4*g.ns.length
 ord:s.ord.length=10
 M:c.M.length=g.ns.length
 F:c.F.length=g.is.length
structure TW (g:Gm) (H:List AO) (c:TC) (s:TS) (G:List AO):Prop where
 l:TL g c s
 len:G.length=pE H g
 low:∀ i,i<H.length->G[i]? = H[i]?
 cl:closed G
 w:G[pW H g]? = some (wObj g H s)
 m:G[pM H g]? = some ⟨ints c.M,3,1,true⟩
 f:G[pF H g]? = some ⟨ints c.F,3,1,true⟩
 ao:G[pAo H g]? = some ⟨outs g.is.length (pA H g) g.acts 1,45,0,true⟩
 a:∀ i,i<g.is.length->G[pA H g i]? = some ⟨ints (s.A i),3,1,true⟩
 po:G[pPo H g]? = some ⟨outs g.is.length (pP H g) g.acts 1,45,0,true⟩
 p:∀ i,i<g.is.length->G[pP H g i]? = some ⟨ints (s.P i),3,1,true⟩
 so:G[pSo H g]? = some ⟨outs g.is.length (pS H g) g.acts 0,45,0,true⟩
 ss:∀ i,i<g.is.length->G[pS H g i]? = some ⟨ints (s.S i),3,0,true⟩
 v:G[pV H g]? = some ⟨ints s.V,105,1,true⟩
 r:G[pR H g]? = some ⟨ints s.R,105,1,true⟩
 o:G[pO H g]? = some ⟨ints s.O,105,1,true⟩
section
variable {g:Gm} {H G:List AO} {c:TC} {s:TS}
theorem TW.setV (h:TW g H c s G) {V:List Int} (hV:V.length=4*g.ns.length):TW g H c { s with V:=V } (G.set (pV H g) ⟨ints V,105,1,true⟩):=by
 have hlt:=getElem?_lt h.v
 have ne:∀ {j:Nat} {x:Option AO},pV H g≠j->G[j]? = x->(G.set (pV H g) ⟨ints V,105,1,true⟩)[j]? = x:=fun hn hx=>by rw[List.getElem?_set_ne hn]; exact hx
 constructor
 case l=>exact⟨h.l.A,h.l.P,h.l.S,hV,h.l.R,h.l.O,h.l.ord,h.l.M,h.l.F⟩
 case len=>simpa using h.len
 case cl=>exact closed_set h.cl _ (by simp)
 case v=>rw[List.getElem?_set_self hlt]
 case low=>intro i hi; exact ne (by unfold pV; omega) (h.low i hi)
 case a=>intro i hi; exact ne (by unfold pV pA; omega) (h.a i hi)
 case p=>intro i hi; exact ne (by unfold pV pP; omega) (h.p i hi)
 case ss=>intro i hi; exact ne (by unfold pV pS; omega) (h.ss i hi)
 case w=>exact ne (by unfold pV pW; omega) h.w
 case m=>exact ne (by unfold pV pM; omega) h.m
 case f=>exact ne (by unfold pV pF; omega) h.f
 case ao=>exact ne (by unfold pV pAo; omega) h.ao
 case po=>exact ne (by unfold pV pPo; omega) h.po
 case so=>exact ne (by unfold pV pSo; omega) h.so
 case r=>exact ne (by unfold pV pR; omega) h.r
 case o=>exact ne (by unfold pV pO; omega) h.o
theorem TW.setR (h:TW g H c s G) {X:List Int} (hV:X.length=4*g.ns.length):TW g H c { s with R:=X } (G.set (pR H g) ⟨ints X,105,1,true⟩):=by
 have hlt:=getElem?_lt h.r
 have ne:∀ {j:Nat} {x:Option AO},pR H g≠j->G[j]? = x->(G.set (pR H g) ⟨ints X,105,1,true⟩)[j]? = x:=fun hn hx=>by rw[List.getElem?_set_ne hn]; exact hx
 constructor
 case l=>exact⟨h.l.A,h.l.P,h.l.S,h.l.V,hV,h.l.O,h.l.ord,h.l.M,h.l.F⟩
 case len=>simpa using h.len
 case cl=>exact closed_set h.cl _ (by simp)
 case r=>rw[List.getElem?_set_self hlt]
 case low=>intro i hi; exact ne (by unfold pR; omega) (h.low i hi)
 case a=>intro i hi; exact ne (by unfold pR pA; omega) (h.a i hi)
 case p=>intro i hi; exact ne (by unfold pR pP; omega) (h.p i hi)
 case ss=>intro i hi; exact ne (by unfold pR pS; omega) (h.ss i hi)
 case w=>exact ne (by unfold pR pW; omega) h.w
 case m=>exact ne (by unfold pR pM; omega) h.m
 case f=>exact ne (by unfold pR pF; omega) h.f
 case ao=>exact ne (by unfold pR pAo; omega) h.ao
 case po=>exact ne (by unfold pR pPo; omega) h.po
 case so=>exact ne (by unfold pR pSo; omega) h.so
 case v=>exact ne (by unfold pR pV; omega) h.v
 case o=>exact ne (by unfold pR pO; omega) h.o
theorem TW.setO (h:TW g H c s G) {X:List Int} (hV:X.length=4*g.ns.length):TW g H c { s with O:=X } (G.set (pO H g) ⟨ints X,105,1,true⟩):=by
 have hlt:=getElem?_lt h.o
 have ne:∀ {j:Nat} {x:Option AO},pO H g≠j->G[j]? = x->(G.set (pO H g) ⟨ints X,105,1,true⟩)[j]? = x:=fun hn hx=>by rw[List.getElem?_set_ne hn]; exact hx
 constructor
 case l=>exact⟨h.l.A,h.l.P,h.l.S,h.l.V,h.l.R,hV,h.l.ord,h.l.M,h.l.F⟩
 case len=>simpa using h.len
 case cl=>exact closed_set h.cl _ (by simp)
 case o=>rw[List.getElem?_set_self hlt]
 case low=>intro i hi; exact ne (by unfold pO; omega) (h.low i hi)
 case a=>intro i hi; exact ne (by unfold pO pA; omega) (h.a i hi)
 case p=>intro i hi; exact ne (by unfold pO pP; omega) (h.p i hi)
 case ss=>intro i hi; exact ne (by unfold pO pS; omega) (h.ss i hi)
 case w=>exact ne (by unfold pO pW; omega) h.w
 case m=>exact ne (by unfold pO pM; omega) h.m
 case f=>exact ne (by unfold pO pF; omega) h.f
 case ao=>exact ne (by unfold pO pAo; omega) h.ao
 case po=>exact ne (by unfold pO pPo; omega) h.po
 case so=>exact ne (by unfold pO pSo; omega) h.so
 case r=>exact ne (by unfold pO pR; omega) h.r
 case v=>exact ne (by unfold pO pV; omega) h.v
end
end Go.Proofs.YtogjmpkehjfecaaGreatDoor.Rc
namespace Go.Proofs.YtogjmpkehjfecaaGreatDoor.Rc
open Go.Ab Go.Ab.Shr
theorem oc_at {G:List AO} {p:Nat} {c:List SV} {T:TypeId} {v:Nat} (h:G[p]? = some ⟨c,T,v,true⟩) (L:List AO):objCells (G++L) p v=c:=by
 rw[objCells_app L (getElem?_lt h)]; exact objCells_of (o:=⟨c,T,v,true⟩) h rfl
theorem so_at {G:List AO} {p:Nat} {o:AO} (h:G[p]? = some o) (L:List AO) (f:AO->AO):Ab.setObj (G++L) p f=G.set p (f o)++L:=by
 have hlt:=getElem?_lt h
 rw[setObj_some (o:=o) (by rw[List.getElem?_append_left hlt]; exact h),List.set_append_left _ _ hlt]
theorem outs_get {I:Nat} {p n:Nat->Nat} {ver i:Nat} (h:i<I):(outs I p n ver)[i]?.getD .any=.own (p i) 0 (n i) 1 ver:=by simp[outs,h]
@[simp] theorem outs_getG {I:Nat} {p n:Nat->Nat} {ver i:Nat} (h:i<(outs I p n ver).length):(outs I p n ver)[i]'h=.own (p i) 0 (n i) 1 ver:=by simp[outs]
@[simp] theorem outs_len (I:Nat) (p n:Nat->Nat) (ver:Nat):(outs I p n ver).length=I:=by simp[outs]
theorem ints_at {l:List Int} {i:Nat} (h:i<l.length):(ints l)[i]?.getD .any=i64 (l.getD i 0):=by simp[ints,h]
section
variable {l:List Nd} {i:Nat}
theorem nd0 (h:i<l.length):(nds l)[i*6]?.getD .any=i64 l[i].k:=by have:=nds_get (t:=0) h (by omega); rw[Nat.add_zero]at this; rw[this]; rfl
theorem nd1 (h:i<l.length):(nds l)[i*6+1]?.getD .any=i64 l[i].p:=by rw[nds_get h (by omega)]; rfl
theorem nd2 (h:i<l.length):(nds l)[i*6+2]?.getD .any=i64 l[i].i:=by rw[nds_get h (by omega)]; rfl
theorem nd3 (h:i<l.length):(nds l)[i*6+3]?.getD .any=.slc (ints l[i].nx) l[i].nx.length:=by rw[nds_get h (by omega)]; rfl
theorem nd4 (h:i<l.length):(nds l)[i*6+4]?.getD .any=.slc (ints l[i].ws) l[i].ws.length:=by rw[nds_get h (by omega)]; rfl
theorem nd5 (h:i<l.length):(nds l)[i*6+5]?.getD .any=.slc (ints l[i].ps) l[i].ps.length:=by rw[nds_get h (by omega)]; rfl
end
def brP (g:Gm) (S:Nat->List Int) (i k:Nat):Int:=match g.ns[i]? with
 | none=>0
 | some x=>if x.k=1 then x.ws.getD k 0 else(S x.i.toNat).getD k 0
def brW (g:Gm) (M:List Int) (i:Nat):Int:=match g.ns[i]? with
 | none=>0
 | some x=>if x.k=1 then M.getD i 0 else 65536
section
variable {g:Gm} {H G:List AO} {c:TC} {s:TS}
theorem TW.cw (h:TW g H c s G) (L:List AO):objCells (G++L) (pW H g) 0=wHead g H s++(ints s.ord++[]):=oc_at h.w L
theorem TW.ltw (h:TW g H c s G):pW H g<G.length:=getElem?_lt h.w
theorem mv_of (hW:Wg g) {i:Nat} (hi:i<g.ns.length) (hk:g.ns[i].k=2):g.ns[i].i.toNat<g.is.length∧(g.ns[i].i.toNat:Int)=g.ns[i].i∧g.acts g.ns[i].i.toNat=g.ns[i].nx.length∧1≤g.ns[i].nx.length∧g.ns[i].nx.length≤10:=by
 have h1:=hW.gd.inf (List.getElem_mem hi) hk
 have h2:=hW.ty (List.getElem_mem hi) hk
 have h3:=hW.gd.e _ (List.getElem_mem hi)
 refine⟨by omega,by omega,?_,?_⟩
 · simp[Gm.acts,h2]
 · unfold Nd.err Nd.move at h3
   rw[if_neg (by omega),if_neg (by omega),if_pos hk]at h3
   split at h3
   · omega
   · omega
theorem ch_of (hW:Wg g) {i:Nat} (hi:i<g.ns.length) (hk:g.ns[i].k=1):g.ns[i].ws.length=g.ns[i].nx.length∧1≤g.ns[i].nx.length∧g.ns[i].nx.length≤60∧∀ w∈g.ns[i].ws,1≤w∧w≤1000:=by
 have h3:=hW.gd.e _ (List.getElem_mem hi)
 unfold Nd.err Nd.chance at h3
 rw[if_neg (by omega),if_pos hk]at h3
 split at h3
 · omega
 · rename_i hn
   refine⟨by omega,by omega,by omega,fun w hw => ?_⟩
   unfold within at h3
   split at h3
   · omega
   · rename_i ha
     simp only[List.any_eq_true,not_exists,not_and,outR,Bool.or_eq_true,decide_eq_true_eq]at ha
     have:=ha w hw
     omega
theorem en_of (hW:Wg g) {i:Nat} (hi:i<g.ns.length) (hk:g.ns[i].k=3):g.ns[i].nx=[]∧(g.ns[i].ps.length:Int)=g.pl∧∀ w∈g.ns[i].ps,-1000000≤w∧w≤1000000:=by
 have h3:=hW.gd.e _ (List.getElem_mem hi)
 unfold Nd.err Nd.end at h3
 rw[if_neg (by omega),if_neg (by omega),if_neg (by omega)]at h3
 split at h3
 · omega
 · rename_i hn
   refine⟨List.eq_nil_of_length_eq_zero (by omega),by omega,fun w hw => ?_⟩
   unfold within at h3
   split at h3
   · omega
   · rename_i ha
     simp only[List.any_eq_true,not_exists,not_and,outR,Bool.or_eq_true,decide_eq_true_eq]at ha
     have:=ha w hw
     omega
theorem kd_of (hW:Wg g) {i:Nat} (hi:i<g.ns.length):g.ns[i].k=1∨g.ns[i].k=2∨g.ns[i].k=3:=by
 have h3:=hW.gd.e _ (List.getElem_mem hi)
 unfold Nd.err at h3
 split at h3
 · omega
 · omega
set_option maxRecDepth 10000 in
theorem ok89 (hW:Wg g) (h:TW g H c s G) (L:List AO) {i k:Nat} (hi:i<g.ns.length) (hk:k<g.ns[i].nx.length) :
 Ok Tryz.prog 89 [.ptr (.own (pW H g) 0 0 0 0) 0,i64 i,i64 k] (G++L) (.ret (.tup [i64 (brP g s.S i k),i64 (brW g c.M i)])) (G++L):=by
 have hw:=h.cw L
 have hlt:=h.ltw
 refine ok_fn hm Tryz.func89 c89 (by simp[show pW H g<G.length+L.length by omega]) fun hcl => ?_
 have hx:g.ns[i]? = some g.ns[i]:=List.getElem?_eq_getElem hi
 have hn:=hW.gd.n
 have hg3:g.ns[i].k=1∨g.ns[i].k=2:=by
  rcases kd_of hW hi with h | h | h
  · exact .inl h
  · exact .inr h
  · have:=(en_of hW hi h).1
    rw[this]at hk; simp at hk
 rcases hg3 with hk1 | hk2
 · obtain⟨a1,a2,a3,a4⟩:=ch_of hW hi hk1
   have hm0:=oc_at h.m L
   have hmi:i<c.M.length:=by rw[h.l.M]; exact hi
   have e1:brP g s.S i k=g.ns[i].ws.getD k 0:=by simp[brP,hx,hk1]
   have e2:brW g c.M i=c.M.getD i 0:=by simp[brW,hx,hk1]
   have hkw:k<g.ns[i].ws.length:=by omega
   rw[e1,e2]
   simp -implicitDefEqProofs[i89,r89,hw,wHead,hi,nd0 hi,nd4 hi,nds_len,hk1,hkw,hm0,hmi,ints_at hmi]
   repeat (refine⟨by omega,?_⟩)
   exact cv_id
 · obtain⟨a1,a2,a3,a4,a5⟩:=mv_of hW hi hk2
   have hso:=oc_at h.so L
   have hs:=oc_at (h.ss _ a1) L
   have hl:=h.l.S _ a1
   have e1:brP g s.S i k=(s.S g.ns[i].i.toNat).getD k 0:=by simp[brP,hx,hk2]
   have e2:brW g c.M i=65536:=by simp[brW,hx,hk2]
   have hks:k<(s.S g.ns[i].i.toNat).length:=by omega
   rw[e1,e2]
   simp -implicitDefEqProofs[i89,r89,hw,wHead,hi,nd0 hi,nd2 hi,nds_len,hk2,hso,outs_get a1,a1,hs,hks,ints_at hks,a3,hk]
   repeat (refine⟨by omega,?_⟩)
   exact cv_id
end
end Go.Proofs.YtogjmpkehjfecaaGreatDoor.Rc
namespace Go.Proofs.YtogjmpkehjfecaaGreatDoor.Rc
open Go.Ab Go.Ab.Shr
def accQ (g:Gm) (S:Nat->List Int) (V nx:List Int) (i q:Nat):Nat->Int
 | 0=>0
 | k+1=>IntKind.i64.wrap (accQ g S V nx i q k+IntKind.i64.wrap (V.getD ((nx.getD k 0).toNat*4+q) 0*brP g S i k))
def valQ (g:Gm) (M:List Int) (S:Nat->List Int) (V:List Int) (i q:Nat):Int:=match g.ns[i]? with
 | none=>0
 | some x=>if x.k=3 then IntKind.i64.wrap (x.ps.getD q 0*1024)else IntKind.i64.wrap ((accQ g S V x.nx i q x.nx.length).tdiv (brW g M i))
def plF (g:Gm) (f:Nat->Int):Nat->Int:=fun q=>if(q:Int)<g.pl then f q else 0
def mixF (q:Nat) (a b:Nat->Int):Nat->Int:=fun x=>if x<q then a x else b x
theorem mix_0 (a b:Nat->Int):mixF 0 a b=b:=by funext x; simp[mixF]
theorem mix_put (q:Nat) (a b:Nat->Int):put (mixF q a b) q (a q)=mixF (q+1) a b:=by
 funext x
 unfold put mixF
 by_cases h1:x=q
 · subst h1; simp
 · rw[if_neg h1]
   by_cases h2:x<q
   · rw[if_pos h2,if_pos (by omega)]
   · rw[if_neg h2,if_neg (by omega)]
theorem mix_at (q:Nat) (a b:Nat->Int):mixF q a b q=b q:=by simp[mixF]
theorem mix_all {g:Gm} {n:Nat} (h:(n:Int)=g.pl) (a b:Nat->Int):mixF n (plF g a) (plF g b)=plF g a:=by
 funext x
 unfold mixF plF
 by_cases h1:x<n
 · rw[if_pos h1]
 · rw[if_neg h1,if_neg (by omega),if_neg (by omega)]
def blk4 (V:List Int) (i:Nat) (f:Nat->Int):List Int:=V.take (i*4)++(rowF 4 f++V.drop (i*4+4))
theorem blk_len {V:List Int} {i n:Nat} (hV:V.length=4*n) (hi:i<n) (f:Nat->Int):(blk4 V i f).length=4*n:=by
 simp[blk4]; omega
theorem out_row {G:List AO} (L:List AO) (f:Nat->Int):objCells (G++⟨ints (rowF 4 f),105,0,true⟩::L) G.length 0=ints (rowF 4 f):=by
 rw[objCells_new0]; exact objCells_of (o:=⟨ints (rowF 4 f),105,0,true⟩) rfl rfl
section
variable {g:Gm} {H G:List AO} {c:TC} {s:TS}
set_option maxRecDepth 10000 in
theorem tlp50_2 (hW:Wg g) (h:TW g H c s G) {i k ch:Nat} {nx:List Int} (hc:ch<g.ns.length) (hnx:nx.getD k 0=ch) {x1 x12 x53 x54:SV} {N:Nat} {K:XE->Env->List AO->Prop}
 (hexit:∀ env,env.get 0=.ptr (.own (pW H g) 0 0 0 0) 0->env.get 1=x1->env.get 5=.ptr (.own G.length 0 0 0 0) 0->env.get 12=x12->env.get 53=x53->env.get 54=x54->env.get 55=i64 k →
  K (.exit 4) env (G++[⟨ints (rowF 4 (plF g fun q=>accQ g s.S s.V nx i q (k+1))),105,0,true⟩])) :
 ∀ (m q:Nat) (env:Env),((q+m:Nat):Int)=g.pl->env.get 0=.ptr (.own (pW H g) 0 0 0 0) 0->env.get 1=x1->env.get 5=.ptr (.own G.length 0 0 0 0) 0->env.get 10=i64 ch->env.get 11=i64 (brP g s.S i k)->env.get 12=x12 →
  env.get 53=x53->env.get 54=x54->env.get 55=i64 k->env.get 71=i64 g.pl->env.get 72=i64 q →
  LI Tryz.prog N drawB l57_2 env (G++[⟨ints (rowF 4 (mixF q (plF g fun q=>accQ g s.S s.V nx i q (k+1)) (plF g fun q=>accQ g s.S s.V nx i q k))),105,0,true⟩]) K:=by
 intro m
 induction m with
 | zero =>
  intro q env hq h0 h1 h5 h10 h11 h12 h53 h54 h55 h71 h72
  refine li_go hm l57_2.eq_1 ?_
  simp -implicitDefEqProofs[h71,h72,show ¬ (q:Int)<g.pl by omega]
  rw[mix_all (by omega)]
  exact hexit _ (by simp[h0]) (by simp[h1]) (by simp[h5]) (by simp[h12]) (by simp[h53]) (by simp[h54]) (by simp[h55])
 | succ m ih =>
  intro q env hq h0 h1 h5 h10 h11 h12 h53 h54 h55 h71 h72
  refine li_go hm l57_2.eq_1 ?_
  have hp4:=hW.gd.p4
  have hq4:q<4:=by omega
  have hqp:(q:Int)<g.pl:=by omega
  have hw:=fun L=>h.cw L
  have hv:=fun L=>oc_at h.v L
  have hl:=h.l.V
  have hcq:ch*4+q<s.V.length:=by omega
  have hG:=h.len
  have e1:accQ g s.S s.V nx i q (k+1)=IntKind.i64.wrap (accQ g s.S s.V nx i q k+IntKind.i64.wrap (s.V.getD (ch*4+q) 0*brP g s.S i k)):=by simp only[accQ,hnx]; simp
  have e2:(plF g fun q=>accQ g s.S s.V nx i q k) q=accQ g s.S s.V nx i q k:=by simp[plF,hqp]
  have e3:(plF g fun q=>accQ g s.S s.V nx i q (k+1)) q=accQ g s.S s.V nx i q (k+1):=by simp[plF,hqp]
  have e4:∀ f:Nat->Int,(ints (rowF 4 f))[q]?.getD .any=i64 (f q):=fun f=>by rw[ints_at (by simpa using hq4),rowF_getD hq4]
  have e5:∀ (f:Nat->Int) (y:Int),List.take q (ints (rowF 4 f))++i64 y::List.drop (q+1) (ints (rowF 4 f))=ints (rowF 4 (put f q y)):=fun f y=>by rw[ints_set (by simpa using hq4),rowF_set]
  have e6:=mix_put q (plF g fun q=>accQ g s.S s.V nx i q (k+1)) (plF g fun q=>accQ g s.S s.V nx i q k)
  have eV:s.V.getD (ch*4+q) 0=s.V[ch*4+q]:=by simp[hcq]
  rw[e3,e1,eV]at e6
  have e7:=mix_at q (plF g fun q=>accQ g s.S s.V nx i q (k+1)) (plF g fun q=>accQ g s.S s.V nx i q k)
  rw[e2]at e7
  generalize mixF q (plF g fun q=>accQ g s.S s.V nx i q (k+1)) (plF g fun q=>accQ g s.S s.V nx i q k)=f at *
  have hov:=fun(f:Nat->Int)=>out_row (G:=G) [] f
  simp -implicitDefEqProofs[h0,h1,h5,h10,h11,h12,h71,h72,hqp,hw,wHead,hv,hc,hcq,hq4,hov,e4,e5,e7,rowF_get hq4]
  repeat (refine⟨by omega,?_⟩)
  rw[e6]
  refine ih (q+1) _ (by omega) ?_ ?_ ?_ ?_ ?_ ?_ ?_ ?_ ?_ ?_ ?_
  · simp
  · simp
  · simp
  · simp
  · simp
  · simp
  · simp[h53]
  · simp[h54]
  · simp[h55]
  · simp
  · simp[wrap_suc (show q<9223372036854775807 by omega)]
set_option maxRecDepth 10000 in
theorem tlp50_1 (hW:Wg g) (h:TW g H c s G) {i:Nat} (hi:i<g.ns.length) {N:Nat} {K:XE->Env->List AO->Prop}
 (hexit:∀ env,env.get 0=.ptr (.own (pW H g) 0 0 0 0) 0->env.get 1=i64 i->env.get 5=.ptr (.own G.length 0 0 0 0) 0->env.get 8=i64 (brW g c.M i) →
  K (.exit 2) env (G++[⟨ints (rowF 4 (plF g fun q=>accQ g s.S s.V g.ns[i].nx i q g.ns[i].nx.length)),105,0,true⟩])) :
 ∀ (m k:Nat) (env:Env),k+m=g.ns[i].nx.length->(k≠0->env.get 8=i64 (brW g c.M i))->(m=0->k≠0)->env.get 0=.ptr (.own (pW H g) 0 0 0 0) 0->env.get 1=i64 i->env.get 5=.ptr (.own G.length 0 0 0 0) 0 →
  env.get 53=.slc (ints g.ns[i].nx) g.ns[i].nx.length->env.get 54=i64 g.ns[i].nx.length->env.get 55=i64 k →
  LI Tryz.prog N drawB l57_1 env (G++[⟨ints (rowF 4 (plF g fun q=>accQ g s.S s.V g.ns[i].nx i q k)),105,0,true⟩]) K:=by
 have hnx60:g.ns[i].nx.length≤60:=nx_of (hW.gd.e _ (List.getElem_mem hi))
 intro m
 induction m with
 | zero =>
  intro k env hk h8 hk0 h0 h1 h5 h53 h54 h55
  refine li_go hm l57_1.eq_1 ?_
  have e:k=g.ns[i].nx.length:=by omega
  subst e
  simp -implicitDefEqProofs[h54,h55]
  exact hexit _ (by simp[h0]) (by simp[h1]) (by simp[h5]) (by simp[h8 (hk0 rfl)])
 | succ m ih =>
  intro k env hk h8 hk0 h0 h1 h5 h53 h54 h55
  refine li_go hm l57_1.eq_1 ?_
  have hkl:k<g.ns[i].nx.length:=by omega
  have hch:=(hW.wf.nf i hi).ch _ (List.getElem_mem hkl)
  have hw:=fun L=>h.cw L
  simp -implicitDefEqProofs[h0,h1,h5,h53,h54,h55,hkl]
  refine⟨by omega,call_go (ok89 hW h _ hi hkl) ?_⟩
  simp -implicitDefEqProofs[h0,h1,h5,h53,h54,h55,hw,wHead]
  have hcn:((g.ns[i].nx[k].toNat:Nat):Int)=g.ns[i].nx[k]:=by omega
  have e0:=mix_0 (plF g fun q=>accQ g s.S s.V g.ns[i].nx i q (k+1)) (plF g fun q=>accQ g s.S s.V g.ns[i].nx i q k)
  rw[←e0]
  have hp:=hW.gd.p1
  refine tlp50_2 hW h (i:=i) (k:=k) (ch:=g.ns[i].nx[k].toNat) (nx:=g.ns[i].nx) (by omega) (by simp[hkl,hcn]) (x1:=i64 i) (x12:=i64 (brW g c.M i)) (x53:=.slc (ints g.ns[i].nx) g.ns[i].nx.length) (x54:=i64 g.ns[i].nx.length) (fun env g0 g1 g5 g12 g53 g54 g55 => ?_) g.pl.toNat 0 _ (by omega) (by simp) (by simp) (by simp) (by simp[hcn]) (by simp) (by simp) (by simp) (by simp) (by simp) (by simp) (by simp)
  simp -implicitDefEqProofs[g0,g1,g5,g12,g53,g54,g55]
  refine ih (k+1) _ (by omega) (fun _=>by simp) (fun _=>by omega) ?_ ?_ ?_ ?_ ?_ ?_
  · simp[g0]
  · simp[g1]
  · simp[g5]
  · simp[g53]
  · simp[g54]
  · simp[wrap_suc (show k<9223372036854775807 by omega)]
set_option maxRecDepth 10000 in
theorem tlp50_3 (hW:Wg g) {d:Int} (hd:d≠0) {f:Nat->Int} {x1:SV} {N:Nat} {K:XE->Env->List AO->Prop}
 (hexit:∀ env,env.get 0=.ptr (.own (pW H g) 0 0 0 0) 0->env.get 1=x1->env.get 5=.ptr (.own G.length 0 0 0 0) 0 →
  K (.exit 6) env (G++[⟨ints (rowF 4 (plF g fun q=>IntKind.i64.wrap ((f q).tdiv d))),105,0,true⟩])) :
 ∀ (m q:Nat) (env:Env),((q+m:Nat):Int)=g.pl->env.get 0=.ptr (.own (pW H g) 0 0 0 0) 0->env.get 1=x1->env.get 5=.ptr (.own G.length 0 0 0 0) 0->env.get 8=i64 d->env.get 98=i64 g.pl->env.get 99=i64 q →
  LI Tryz.prog N drawB l57_3 env (G++[⟨ints (rowF 4 (mixF q (plF g fun q=>IntKind.i64.wrap ((f q).tdiv d)) (plF g f))),105,0,true⟩]) K:=by
 have hp4:=hW.gd.p4
 intro m
 induction m with
 | zero =>
  intro q env hq h0 h1 h5 h8 h98 h99
  refine li_go hm l57_3.eq_1 ?_
  simp -implicitDefEqProofs[h98,h99,show ¬ (q:Int)<g.pl by omega]
  rw[mix_all (by omega)]
  exact hexit _ (by simp[h0]) (by simp[h1]) (by simp[h5])
 | succ m ih =>
  intro q env hq h0 h1 h5 h8 h98 h99
  refine li_go hm l57_3.eq_1 ?_
  have hq4:q<4:=by omega
  have hqp:(q:Int)<g.pl:=by omega
  have e4:∀ f:Nat->Int,(ints (rowF 4 f))[q]?.getD .any=i64 (f q):=fun f=>by rw[ints_at (by simpa using hq4),rowF_getD hq4]
  have e5:∀ (f:Nat->Int) (y:Int),List.take q (ints (rowF 4 f))++i64 y::List.drop (q+1) (ints (rowF 4 f))=ints (rowF 4 (put f q y)):=fun f y=>by rw[ints_set (by simpa using hq4),rowF_set]
  have e6:=mix_put q (plF g fun q=>IntKind.i64.wrap ((f q).tdiv d)) (plF g f)
  have e3:(plF g fun q=>IntKind.i64.wrap ((f q).tdiv d)) q=IntKind.i64.wrap ((f q).tdiv d):=by simp[plF,hqp]
  rw[e3]at e6
  have e7:=mix_at q (plF g fun q=>IntKind.i64.wrap ((f q).tdiv d)) (plF g f)
  have e2:(plF g f) q=f q:=by simp[plF,hqp]
  rw[e2]at e7
  generalize mixF q (plF g fun q=>IntKind.i64.wrap ((f q).tdiv d)) (plF g f)=F at *
  have hov:=fun(f:Nat->Int)=>out_row (G:=G) [] f
  simp -implicitDefEqProofs[h0,h1,h5,h8,h98,h99,hqp,hq4,hov,e4,e5,e7,rowF_get hq4,hd]
  repeat (refine⟨by omega,?_⟩)
  rw[e6]
  refine ih (q+1) _ (by omega) ?_ ?_ ?_ ?_ ?_ ?_
  · simp[h0]
  · simp[h1]
  · simp
  · simp
  · simp
  · simp[wrap_suc (show q<9223372036854775807 by omega)]
set_option maxRecDepth 10000 in
theorem tlp50_0 (hW:Wg g) {ps:List Int} (hps:(ps.length:Int)=g.pl) {x1:SV} {N:Nat} {K:XE->Env->List AO->Prop}
 (hexit:∀ env,env.get 0=.ptr (.own (pW H g) 0 0 0 0) 0->env.get 1=x1->env.get 5=.ptr (.own G.length 0 0 0 0) 0 →
  K (.exit 0) env (G++[⟨ints (rowF 4 (plF g fun q=>IntKind.i64.wrap (ps.getD q 0*1024))),105,0,true⟩])) :
 ∀ (m q:Nat) (env:Env),((q+m:Nat):Int)=g.pl->env.get 0=.ptr (.own (pW H g) 0 0 0 0) 0->env.get 1=x1->env.get 5=.ptr (.own G.length 0 0 0 0) 0->env.get 31=.slc (ints ps) ps.length->env.get 32=i64 ps.length->env.get 33=i64 q →
  LI Tryz.prog N drawB l57_0 env (G++[⟨ints (rowF 4 (mixF q (plF g fun q=>IntKind.i64.wrap (ps.getD q 0*1024)) (plF g fun _=>0))),105,0,true⟩]) K:=by
 have hp4:=hW.gd.p4
 intro m
 induction m with
 | zero =>
  intro q env hq h0 h1 h5 h31 h32 h33
  refine li_go hm l57_0.eq_1 ?_
  have e:q=ps.length:=by omega
  subst e
  simp -implicitDefEqProofs[h32,h33]
  rw[mix_all (by omega)]
  exact hexit _ (by simp[h0]) (by simp[h1]) (by simp[h5])
 | succ m ih =>
  intro q env hq h0 h1 h5 h31 h32 h33
  refine li_go hm l57_0.eq_1 ?_
  have hq4:q<4:=by omega
  have hqp:(q:Int)<g.pl:=by omega
  have hql:q<ps.length:=by omega
  have e5:∀ (f:Nat->Int) (y:Int),List.take q (ints (rowF 4 f))++i64 y::List.drop (q+1) (ints (rowF 4 f))=ints (rowF 4 (put f q y)):=fun f y=>by rw[ints_set (by simpa using hq4),rowF_set]
  have e6:=mix_put q (plF g fun q=>IntKind.i64.wrap (ps.getD q 0*1024)) (plF g fun _=>0)
  have e3:(plF g fun q=>IntKind.i64.wrap (ps.getD q 0*1024)) q=IntKind.i64.wrap (ps[q]*1024):=by simp[plF,hqp,hql]
  rw[e3]at e6
  generalize mixF q (plF g fun q=>IntKind.i64.wrap (ps.getD q 0*1024)) (plF g fun _=>0)=F at *
  have hov:=fun(f:Nat->Int)=>out_row (G:=G) [] f
  simp -implicitDefEqProofs[h0,h1,h5,h31,h32,h33,hql,hq4,hov,e5]
  repeat (refine⟨by omega,?_⟩)
  rw[e6]
  refine ih (q+1) _ (by omega) ?_ ?_ ?_ ?_ ?_ ?_
  · simp[h0]
  · simp[h1]
  · simp
  · simp
  · simp
  · simp[wrap_suc (show q<9223372036854775807 by omega)]
end
end Go.Proofs.YtogjmpkehjfecaaGreatDoor.Rc
namespace Go.Proofs.YtogjmpkehjfecaaGreatDoor.Rc
open Go.Ab Go.Ab.Shr
structure TC.Ok (g:Gm) (c:TC):Prop where
 m:∀ i (h:i<g.ns.length),g.ns[i].k=1->0<c.M.getD i 0
 f:∀ i,i<g.is.length->0≤c.F.getD i 0∧c.F.getD i 0<g.ns.length
theorem brW_ne {g:Gm} {c:TC} (h:c.Ok g) {i:Nat} (hi:i<g.ns.length):brW g c.M i≠0:=by
 have hx:g.ns[i]? = some g.ns[i]:=List.getElem?_eq_getElem hi
 simp only[brW,hx]
 split
 · rename_i hk; have:=h.m i hi hk; omega
 · decide
section
variable {g:Gm} {H G:List AO} {c:TC} {s:TS}
theorem TW.cw0 (h:TW g H c s G):objCells G (pW H g) 0=wHead g H s++(ints s.ord++[]):=by have:=h.cw []; rwa [List.append_nil]at this
theorem TW.fin (h:TW g H c s G) {L:List AO}:Cv G.length (.tup []) (G++L) (.tup []) G:=cv_drop rfl (Nat.le_refl _) h.cl rfl
theorem blk_ints (V:List Int) (i:Nat) (f:Nat->Int):List.take (i*4) (ints V)++(ints (rowF 4 f)++List.drop (i*4+4) (ints V))=ints (blk4 V i f):=by simp[ints,blk4]
theorem fin50 (h:TW g H c s G) {i:Nat} (hi:i<g.ns.length) {f:Nat->Int} {L:List AO} :
 FinQ G.length (fun out G'=>out=.ret (.tup [])∧TW g H c { s with V:=blk4 s.V i f } G') (.tup []) (G.set (pV H g) ⟨List.take (i*4) (ints s.V)++(ints (rowF 4 f)++List.drop (i*4+4) (ints s.V)),105,1,true⟩++L):=by
 rw[blk_ints]
 have h2:=h.setV (blk_len h.l.V hi f)
 have h3:=h2.fin (L:=L)
 rw[List.length_set]at h3
 exact⟨_,_,⟨rfl,h2⟩,h3⟩
set_option maxRecDepth 10000 in
theorem ok57 (hW:Wg g) (h:TW g H c s G) (hc:c.Ok g) {i:Nat} (hi:i<g.ns.length) :
 OkP Tryz.prog 57 [.ptr (.own (pW H g) 0 0 0 0) 0,i64 i] G fun out G'=>out=.ret (.tup [])∧TW g H c { s with V:=blk4 s.V i (plF g (valQ g c.M s.S s.V i)) } G':=by
 have hlt:=h.ltw
 have hx:g.ns[i]? = some g.ns[i]:=List.getElem?_eq_getElem hi
 have hw:=fun L=>h.cw L
 have hw0:=h.cw0
 have hn:=hW.gd.n
 have hp:=hW.gd.p1
 have hVl:=h.l.V
 have hcv:=fun L=>oc_at h.v L
 have hsv:=fun L f=>so_at h.v L f
 refine okP_fn hm Tryz.func57 c57 (by simp[hlt]) fun hcl => ?_
 have hk12:g.ns[i].k≠3->1≤g.ns[i].nx.length:=fun h3=>by
  rcases kd_of hW hi with h | h | h
  · exact(ch_of hW hi h).2.1
  · exact(mv_of hW hi h).2.2.2.1
  · exact absurd h h3
 by_cases hk:g.ns[i].k≠3
 · have ep:(fun q=>IntKind.i64.wrap ((accQ g s.S s.V g.ns[i].nx i q g.ns[i].nx.length).tdiv (brW g c.M i)))=valQ g c.M s.S s.V i:=by funext q; simp[valQ,hx,hk]
   simp -implicitDefEqProofs[i57,r57,hw,hw0,wHead,hi,nd0 hi,nd3 hi,nds_len,hk]
   repeat (refine⟨by omega,?_⟩)
   have e0:[i64 0,i64 0,i64 0,i64 0]=ints (rowF 4 (plF g fun q=>accQ g s.S s.V g.ns[i].nx i q 0)):=by
    simp[accQ,plF,rowF,ints,List.range_succ]
   rw[e0]
   refine tlp50_1 hW h hi (fun env g0 g1 g5 g8 => ?_) g.ns[i].nx.length 0 _ (by omega) (fun h=>absurd rfl h) (fun h=>by have:=hk12 hk; omega) (by simp) (by simp) (by simp) (by simp) (by simp) (by simp)
   simp -implicitDefEqProofs[g0,g1,g5,g8,hw,wHead]
   have e1:=mix_0 (plF g fun q=>IntKind.i64.wrap ((accQ g s.S s.V g.ns[i].nx i q g.ns[i].nx.length).tdiv (brW g c.M i))) (plF g fun q=>accQ g s.S s.V g.ns[i].nx i q g.ns[i].nx.length)
   rw[←e1]
   refine tlp50_3 (H:=H) hW (brW_ne hc hi) (x1:=i64 i) (fun env g0 g1 g5 => ?_) g.pl.toNat 0 _ (by omega) (by simp[g0]) (by simp[g1]) (by simp[g5]) (by simp[g8]) (by simp) (by simp)
   rw[ep]
   simp -implicitDefEqProofs[g0,g1,g5,hw,wHead,out_row,hcv,hsv,hi]
   exact⟨by omega,fin50 h hi⟩
 · have hk:g.ns[i].k=3:=by omega
   obtain⟨a1,a2,a3⟩:=en_of hW hi hk
   have ep:(fun q=>IntKind.i64.wrap (g.ns[i].ps.getD q 0*1024))=valQ g c.M s.S s.V i:=by funext q; simp[valQ,hx,hk]
   simp -implicitDefEqProofs[i57,r57,hw,hw0,wHead,hi,nd0 hi,nd5 hi,nds_len,hk]
   repeat (refine⟨by omega,?_⟩)
   have e0:[i64 0,i64 0,i64 0,i64 0]=ints (rowF 4 (mixF 0 (plF g fun q=>IntKind.i64.wrap (g.ns[i].ps.getD q 0*1024)) (plF g fun _=>0))):=by
    rw[mix_0]; simp[plF,rowF,ints,List.range_succ]
   rw[e0]
   refine tlp50_0 (H:=H) hW a2 (x1:=i64 i) (fun env g0 g1 g5 => ?_) g.pl.toNat 0 _ (by omega) (by simp) (by simp) (by simp) (by simp) (by simp) (by simp)
   rw[ep]
   simp -implicitDefEqProofs[g0,g1,g5,hw,wHead,out_row,hcv,hsv,hi]
   exact⟨by omega,fin50 h hi⟩
end
end Go.Proofs.YtogjmpkehjfecaaGreatDoor.Rc
namespace Go.Ab.Lm
theorem val_set:∀ {l:List Nat} {j:Nat} (h:j<l.length) (x:Nat),val (l.set j x)+l[j]*B ^ j=val l+x*B ^ j
 | [],j,h,x=>by simp at h
 | y::r,0,h,x=>by simp[val]; omega
 | y::r,j+1,h,x=>by
  have ih:=val_set (l:=r) (j:=j) (by simpa using h) x
  simp only[List.set_cons_succ,List.getElem_cons_succ,val,Nat.pow_succ]
  have h1:B*(val (r.set j x)+r[j]'(by simpa using h)*B ^ j)=B*(val r+x*B ^ j):=by rw[ih]
  rw[Nat.mul_add,Nat.mul_add]at h1
  have e1:B*(r[j]'(by simpa using h)*B ^ j)=r[j]'(by simpa using h)*(B ^ j*B):=by rw[Nat.mul_comm,Nat.mul_assoc]
  have e2:B*(x*B ^ j)=x*(B ^ j*B):=by rw[Nat.mul_comm,Nat.mul_assoc]
  rw[e1,e2]at h1
  omega
theorem Dig.set {l:List Nat} {j x:Nat} (h:Dig l) (hx:x<B):Dig (l.set j x):=fun y hy=>by
 rcases List.mem_or_eq_of_mem_set hy with h1 | h1
 · exact h y h1
 · rw[h1]; exact hx
theorem val_zero:∀ n:Nat,val (List.replicate n 0)=0
 | 0=>rfl
 | n+1=>by rw[List.replicate_succ,val,val_zero n,Nat.mul_zero]
theorem val_take_succ {l:List Nat} {k:Nat} (h:k<l.length):val (l.take (k+1))=val (l.take k)+l[k]*B ^ k:=by
 rw[List.take_succ_eq_append_getElem h,val_app]
 have:(l.take k).length=k:=by simp; omega
 rw[this]
 simp[val,Nat.mul_comm]
end Go.Ab.Lm
namespace Go.Proofs.YtogjmpkehjfecaaGreatDoor.Rc
open Go.Ab Go.Ab.Lm
section
variable {H:List AO} {a b:Nat}
theorem us_set {o:List Nat} {j:Nat} (h:j<o.length) (x:Nat):List.take j (us o)++.val (.int .u32 (x:Int))::List.drop (j+1) (us o)=us (o.set j x):=by
 unfold us
 rw[List.map_set,List.set_eq_take_append_cons_drop,if_pos (by simpa using h)]
 rfl
set_option maxRecDepth 10000 in
theorem qlp42_1 {x y o0:List Nat} {i n:Nat} (hx:Dig x) (hy:Dig y) (hi:i<x.length) (hn:n=x.length+y.length) (hnb:n<1000000) {N:Nat} {K:XE->Env->List AO->Prop}
 (hexit:∀ env o c,o.length=n->Dig o->c<B->val o+c*B ^ (i+y.length)=val o0+x[i]*val y*B ^ i->o.drop (i+y.length)=o0.drop (i+y.length) →
  env.get 0=.slc (us x) x.length->env.get 1=.slc (us y) y.length->env.get 5=.own H.length 0 n 1 0->env.get 6=i64 i->env.get 7=.val (.int .u64 (c:Nat))->K (.exit 2) env (H++[⟨us o,114,0,true⟩])) :
 ∀ (m k:Nat) (o:List Nat) (c:Nat) (env:Env),k+m=y.length->o.length=n->Dig o->c<B->val o+c*B ^ (i+k)=val o0+x[i]*val (y.take k)*B ^ i->o.drop (i+k)=o0.drop (i+k) →
  env.get 0=.slc (us x) x.length->env.get 1=.slc (us y) y.length->env.get 5=.own H.length 0 n 1 0->env.get 6=i64 i->env.get 7=.val (.int .u64 (c:Nat))->env.get 8=i64 k →
  LI Tryz.prog N drawB l103_1 env (H++[⟨us o,114,0,true⟩]) K:=by
 have hB:B=1000000000:=rfl
 intro m
 induction m with
 | zero =>
  intro k o c env hk ho hd hc hv ht h0 h1 h5 h6 h7 h8
  refine li_go hm' l103_1.eq_1 ?_
  have e:k=y.length:=by omega
  subst e
  rw[List.take_length]at hv
  simp -implicitDefEqProofs[h0,h1,h5,h6,h7,h8]
  exact hexit _ o c ho hd hc hv ht (by simp[h0]) (by simp[h1]) (by simp[h5]) (by simp[h6]) (by simp[h7])
 | succ m ih =>
  intro k o c env hk ho hd hc hv ht h0 h1 h5 h6 h7 h8
  refine li_go hm' l103_1.eq_1 ?_
  have hky:k<y.length:=by omega
  have hik:i+k<o.length:=by omega
  have dx:=hx _ (List.getElem_mem hi)
  have dy:=hy _ (List.getElem_mem hky)
  have dO:=hd _ (List.getElem_mem hik)
  have w1:IntKind.i64.wrap ((k:Int)+1)=((k+1:Nat):Int):=wrap_succ (by omega)
  have wi:IntKind.i64.wrap ((i:Int)+k)=((i+k:Nat):Int):=by rw[wrap_id (by omega) (by omega)]; omega
  have gx:(us x)[i]?.getD .any=.val (.int .u32 x[i]):=us_at hi
  have gx':∀ h,(us x)[i]'h=.val (.int .u32 x[i]):=fun h=>us_get hi h
  have gy:(us y)[k]?.getD .any=.val (.int .u32 y[k]):=us_at hky
  have gy':∀ h,(us y)[k]'h=.val (.int .u32 y[k]):=fun h=>us_get hky h
  obtain⟨j,hj⟩:∃ j,j=i+k:=⟨_,rfl⟩
  have hjo:j<o.length:=by omega
  have gO:(us o)[j]?.getD .any=.val (.int .u32 o[j]):=us_at hjo
  have gO':∀ h,(us o)[j]'h=.val (.int .u32 o[j]):=fun h=>us_get hjo h
  obtain⟨pm,hpm⟩:∃ pm,pm=x[i]*y[k]:=⟨_,rfl⟩
  have hpb:pm≤999999999*999999999:=by rw[hpm]; exact Nat.mul_le_mul (by omega) (by omega)
  have dO':o[j]<B:=hd _ (List.getElem_mem hjo)
  obtain⟨s1,hs1⟩:∃ s1,s1=c+o[j]:=⟨_,rfl⟩
  obtain⟨t,hts⟩:∃ t,t=s1+pm:=⟨_,rfl⟩
  have wo:=wu64 (n:=o[j]) (by omega)
  have wx:=wu64 (n:=x[i]) (by omega)
  have wy:=wu64 (n:=y[k]) (by omega)
  have wm:IntKind.u64.wrap (((x[i]:Nat):Int)*((y[k]:Nat):Int))=(pm:Int):=by
   rw[show((x[i]:Nat):Int)*((y[k]:Nat):Int)=((pm:Nat):Int)by rw[hpm]; simp,wu64 (by omega)]
  have wa:IntKind.u64.wrap ((c:Int)+((o[j]:Nat):Int))=(s1:Int):=by rw[show(c:Int)+((o[j]:Nat):Int)=((s1:Nat):Int)by omega,wu64 (by omega)]
  have wt:IntKind.u64.wrap ((s1:Int)+(pm:Int))=(t:Int):=by rw[show(s1:Int)+(pm:Int)=((t:Nat):Int)by omega,wu64 (by omega)]
  have tm:∀ t:Nat,((t:Int)).tmod 1000000000=((t % 1000000000:Nat):Int):=fun t=>rfl
  have td:∀ t:Nat,((t:Int)).tdiv 1000000000=((t / 1000000000:Nat):Int):=fun t=>rfl
  obtain⟨q,hq⟩:∃ q,q=t / 1000000000:=⟨_,rfl⟩
  obtain⟨r,hr⟩:∃ r,r=t % 1000000000:=⟨_,rfl⟩
  have eq0:((t / 1000000000:Nat):Int)=(q:Int):=by rw[hq]
  have er:((t % 1000000000:Nat):Int)=(r:Int):=by rw[hr]
  have hqb:q<B:=by rw[hq,hB]; omega
  have hrb:r<B:=by rw[hr,hB]; omega
  have wq:=wu64 (n:=q) (by omega)
  have wr:=wu32 (n:=r) (by omega)
  have hset:=us_set hjo r
  have hvs:=val_set hjo r
  have hln:(us o).length=n:=by rw[us_len,ho]
  have hih:=ih (k+1) (o.set j r) q
  rw[←hj]at wi
  simp -implicitDefEqProofs[h0,h1,h5,h6,h7,h8,hky,us_len,ho,hln,gx,gx',gy,gy',gO,gO',wi,wo,wx,wy,wm,wa,wt,tm,td,eq0,er,wq,wr,hset,show(i:Int)<x.length by omega,show(k:Int)<y.length by omega]
  repeat (refine⟨by omega,?_⟩)
  refine⟨rfl,?_⟩
  repeat (refine⟨by omega,?_⟩)
  refine hih _ (by omega) (by rw[List.length_set]; exact ho) (hd.set hrb) hqb ?_ ?_ ?_ ?_ ?_ ?_ ?_ ?_
  · have hP:B ^ (i+(k+1))=B ^ j*B:=by rw[←Nat.add_assoc,<- hj,Nat.pow_succ]
    have hP2:B ^ k*B ^ i=B ^ j:=by rw[←Nat.pow_add,hj,Nat.add_comm]
    rw[←hj]at hv
    rw[hP,val_take_succ hky]
    have h4:x[i]*(val (y.take k)+y[k]*B ^ k)*B ^ i=x[i]*val (y.take k)*B ^ i+pm*B ^ j:=by
     rw[Nat.mul_add,Nat.add_mul,<- Nat.mul_assoc,Nat.mul_assoc (x[i]*y[k]),hP2,hpm]
    rw[h4]
    generalize B ^ j=P at *
    have h1:t=q*B+r:=by rw[hq,hr,hB]; omega
    have h2:t*P=q*B*P+r*P:=by rw[h1,Nat.add_mul]
    have h3:t*P=c*P+o[j]*P+pm*P:=by rw[hts,hs1,Nat.add_mul,Nat.add_mul]
    have h5:q*(P*B)=q*B*P:=by rw[Nat.mul_comm P B,Nat.mul_assoc]
    rw[h5]
    omega
  · rw[←Nat.add_assoc,<- hj]
    apply List.ext_getElem?
    intro u
    have h1:=congrArg (fun l=>l[u+1]?) ht
    simp only[List.getElem?_drop]at h1
    rw[List.getElem?_drop,List.getElem?_drop,List.getElem?_set_ne (by omega)]
    rw[hj,show i+k+1+u=i+k+(u+1)by omega]
    exact h1
  · simp
  · simp
  · simp
  · simp
  · simp
  · simp[w1]
set_option maxRecDepth 10000 in
theorem qlp42_0 {x y:List Nat} {n:Nat} (hx:Dig x) (hy:Dig y) (hn:n=x.length+y.length) (hnb:n<1000000) {N:Nat} {K:XE->Env->List AO->Prop}
 (hexit:∀ env o,o.length=n->Dig o->val o=val x*val y->env.get 5=.own H.length 0 n 1 0->K (.exit 0) env (H++[⟨us o,114,0,true⟩])) :
 ∀ (m i:Nat) (o:List Nat) (env:Env),i+m=x.length->o.length=n->Dig o->val o=val (x.take i)*val y->o.drop (i+y.length)=List.replicate (x.length-i) 0 →
  env.get 0=.slc (us x) x.length->env.get 1=.slc (us y) y.length->env.get 5=.own H.length 0 n 1 0->env.get 6=i64 i →
  LI Tryz.prog N drawB l103_0 env (H++[⟨us o,114,0,true⟩]) K:=by
 have hB:B=1000000000:=rfl
 intro m
 induction m with
 | zero =>
  intro i o env hi ho hd hv ht h0 h1 h5 h6
  refine li_go hm' l103_0.eq_1 ?_
  have e:i=x.length:=by omega
  subst e
  rw[List.take_length]at hv
  simp -implicitDefEqProofs[h0,h1,h5,h6]
  exact hexit _ o ho hd hv (by simp[h5])
 | succ m ih =>
  intro i o env hi ho hd hv ht h0 h1 h5 h6
  refine li_go hm' l103_0.eq_1 ?_
  have hix:i<x.length:=by omega
  have w1:IntKind.i64.wrap ((i:Int)+1)=((i+1:Nat):Int):=wrap_succ (by omega)
  simp -implicitDefEqProofs[h0,h1,h5,h6,hix]
  refine qlp42_1 (o0:=o) hx hy hix hn hnb (fun env o2 c ho2 hd2 hc hv2 ht2 k0 k1 k5 k6 k7 => ?_) y.length 0 o 0 _ (by omega) ho hd (by decide) (by simp[val]) rfl ?_ ?_ ?_ ?_ ?_ ?_
  · have wi:IntKind.i64.wrap ((i:Int)+y.length)=((i+y.length:Nat):Int):=by rw[wrap_id (by omega) (by omega)]; omega
    have wc:=wu32 (n:=c) (by omega)
    obtain⟨j,hj⟩:∃ j,j=i+y.length:=⟨_,rfl⟩
    rw[←hj]at wi hv2 ht2 ht
    have hjo:j<o2.length:=by omega
    have hset:=us_set hjo c
    have hvs:=val_set hjo c
    have hln:(us o2).length=n:=by rw[us_len,ho2]
    have hz:o2[j]=0:=by
     have h1:=congrArg (fun l=>l[0]?) (ht2.trans ht)
     simp only[List.getElem?_drop,Nat.add_zero]at h1
     rw[List.getElem?_eq_getElem hjo]at h1
     simpa[show 0<x.length-i by omega]using h1
    rw[hz,Nat.zero_mul,Nat.add_zero]at hvs
    simp -implicitDefEqProofs[k0,k1,k5,k6,k7,wi,wc,hset,hln]
    repeat (refine⟨by omega,?_⟩)
    refine⟨rfl,?_⟩
    repeat (refine⟨by omega,?_⟩)
    refine ih (i+1) (o2.set j c) _ (by omega) (by rw[List.length_set]; exact ho2) (hd2.set hc) ?_ ?_ ?_ ?_ ?_ ?_
    · rw[hvs,hv2,hv,val_take_succ hix,Nat.add_mul]
      congr 1
      rw[Nat.mul_assoc,Nat.mul_assoc,Nat.mul_comm (val y)]
    · rw[show i+1+y.length=j+1 by omega]
      apply List.ext_getElem?
      intro u
      have h1:=congrArg (fun l=>l[u+1]?) (ht2.trans ht)
      simp only[List.getElem?_drop]at h1
      rw[List.getElem?_drop,List.getElem?_set_ne (by omega),show j+1+u=j+(u+1)by omega,h1,List.getElem?_replicate,List.getElem?_replicate]
      by_cases hu:u+1<x.length-i
      · rw[if_pos hu,if_pos (by omega)]
      · rw[if_neg hu,if_neg (by omega)]
    · simp[k0]
    · simp[k1]
    · simp[k5]
    · simp[w1]
  · simp[h0]
  · simp
  · simp[h5]
  · simp
  · simp
  · simp
theorem ok103 (hl:(lim a).length+(lim b).length<1000000):Ok Tryz.prog 103 [nS a,nS b] H (.ret (nS (a*b))) H:=by
 refine ok_fn hm' Tryz.func103 c103 (by simp[nS,us_under]) fun hcl => ?_
 have wl:IntKind.i64.wrap (((lim a).length:Int)+(lim b).length)=(((lim a).length+(lim b).length:Nat):Int):=by rw[wrap_id (by omega) (by omega)]; omega
 obtain⟨n,hn⟩:∃ n,n=(lim a).length+(lim b).length:=⟨_,rfl⟩
 rw[←hn]at wl
 simp -implicitDefEqProofs[i103,r103,nS,wl]
 repeat (refine⟨by omega,?_⟩)
 have e0:List.replicate n (SV.val (.int .u32 0))=us (List.replicate n 0):=by simp[us,u32]
 rw[e0]
 refine qlp42_0 (H:=H) (lim_dig a) (lim_dig b) hn (by omega) (fun env o ho hd hv h5 => ?_) (lim a).length 0 (List.replicate n 0) _ (by omega) (by simp) (fun z hz=>by simp[List.mem_replicate]at hz; rw[hz.2]; decide) (by rw[val_zero]; simp[val]) ?_ ?_ ?_ ?_ ?_
 · rw[val_lim,val_lim]at hv
   have ht:=trim_lim hd
   rw[hv]at ht
   simp -implicitDefEqProofs[h5]
   have h69:=ok130k (X:=H++[⟨us o,114,0,true⟩]) (l:=o) (k:=H.length) (v:=0) (by simp) (by omega)
   rw[ho]at h69
   refine call_goP h69 ?_
   rintro o' G' ⟨rfl,hG⟩
   rw[hG]
   simp -implicitDefEqProofs
   have hf:=fz_trim (n:=H.length) (L:=[⟨us o,114,0,true⟩]) (z:=o) (k:=0) (d:=0) (v:=0) (by simp)
   rw[ht,Nat.add_zero]at hf
   rw[ht]
   exact cv_fz 2 hcl rfl hf
 · simp[hn]
 · simp
 · simp
 · simp
 · simp
end
end Go.Proofs.YtogjmpkehjfecaaGreatDoor.Rc
namespace Go.Proofs.YtogjmpkehjfecaaGreatDoor.Rc
open Go.Ab Go.Ab.Lm
section
variable {H:List AO}
theorem ok129 {n:Nat} (hn:n<B):Ok Tryz.prog 129 [.val (.int .u32 (n:Nat))] H (.ret (nS n)) H:=by
 refine ok_fn hm' Tryz.func129 c129 (by simp[SV.under]) fun hcl => ?_
 have ht:=trim_lim (l:=[n]) (fun z hz=>by simp at hz; rw[hz]; exact hn)
 have hv:val [n]=n:=by simp[val]
 rw[hv]at ht
 simp -implicitDefEqProofs[i129,r129]
 refine⟨⟨rfl,rfl,rfl⟩,rfl,?_⟩
 have h69:=ok130k (X:=H++[⟨us [n],114,0,true⟩]) (l:=[n]) (k:=H.length) (v:=0) (by simp) (by simp)
 simp only[us,u32,List.map_cons,List.map_nil,List.length_cons,List.length_nil,Nat.zero_add]at h69
 refine call_goP h69 ?_
 rintro o' G' ⟨rfl,hG⟩
 rw[hG]
 simp -implicitDefEqProofs
 have hf:=fz_trim (n:=H.length) (L:=[⟨us [n],114,0,true⟩]) (z:=[n]) (k:=0) (d:=0) (v:=0) (by simp)
 rw[ht,Nat.add_zero]at hf
 rw[ht]
 exact cv_fz 2 hcl rfl hf
set_option maxRecDepth 10000 in
theorem qlp41 {z:List Nat} (hz:z.length<1000000) {N:Nat} {K:XE->Env->List AO->Prop}
 (hexit:∀ env G,env.get 3=.own H.length 0 z.length 1 z.length->K (.exit 0) env (H++⟨us z,114,z.length,true⟩::G)) :
 ∀ (m:Nat) (n:Int) (p:List Nat) (env:Env) (G:List AO),p.length+m=z.length -> -9223372036854775808≤n∧n≤9223372036854775807->p++lim n.natAbs=z->env.get 0=i64 n->env.get 3=.own H.length 0 p.length 1 p.length →
  LI Tryz.prog N drawB l71_0 env (H++⟨us p,114,p.length,true⟩::G) K:=by
 have hB:B=1000000000:=rfl
 intro m
 induction m with
 | zero =>
  intro n p env G hm hn hp h0 h3
  refine li_go hm' l71_0.eq_1 ?_
  have hl:=congrArg List.length hp
  simp only[List.length_append]at hl
  have h1:lim n.natAbs=[]:=List.eq_nil_of_length_eq_zero (by omega)
  have h2:=lim_nil.1 h1
  have h3':n=0:=by omega
  subst h3'
  rw[h1,List.append_nil]at hp
  subst hp
  simp -implicitDefEqProofs[h0,h3]
  exact hexit _ G (by simp[h3])
 | succ m ih =>
  intro n p env G hm hn hp h0 h3
  refine li_go hm' l71_0.eq_1 ?_
  have hl:=congrArg List.length hp
  simp only[List.length_append]at hl
  have hne:n.natAbs≠0:=by
   intro e
   rw[e,lim_0]at hl
   simp at hl
   omega
  have hn0:¬ n=0:=by omega
  rw[lim_pos hne]at hp
  obtain⟨q,hq⟩:∃ q,q=n.tdiv 1000000000:=⟨_,rfl⟩
  obtain⟨d,hd⟩:∃ d,d=n.tmod 1000000000:=⟨_,rfl⟩
  have hqa:q.natAbs=n.natAbs / B:=by rw[hq,hB]; exact Int.natAbs_tdiv n 1000000000
  have hda:d.natAbs=n.natAbs % B:=by rw[hd,hB]; exact Int.natAbs_tmod n 1000000000
  have hdb:d.natAbs<B:=by rw[hda]; exact Nat.mod_lt _ B_pos
  have hqb:q.natAbs≤n.natAbs:=by rw[hqa]; exact Nat.div_le_self _ _
  have hq2:q.natAbs≤9223372036854775808 / 1000000000:=by rw[hqa,hB]; omega
  have wq:IntKind.i64.wrap q=q:=wrap_id (by omega) (by omega)
  have wn:IntKind.i64.wrap (-d) = -d:=wrap_id (by omega) (by omega)
  obtain⟨r,hr⟩:∃ r,r=d.natAbs:=⟨_,rfl⟩
  have hmx:max d (-d)=(r:Int):=by omega
  have wr:=wu32 (n:=r) (by omega)
  have e:us p++[.val (.int .u32 (r:Int))]=us (p++[r]):=by simp[us,u32]
  have hih:=ih q (p++[r])
  have hpl:(p++[r]).length=p.length+1:=by simp
  rw[hpl,<- e]at hih
  simp -implicitDefEqProofs[h0,h3,hn0,<- hq,<- hd,wq,wn,hmx,wr,us_len]
  refine⟨⟨rfl,rfl,rfl⟩,rfl,?_⟩
  repeat (refine⟨by omega,?_⟩)
  refine hih _ _ (by omega) (by omega) ?_ ?_ ?_
  · rw[hqa,List.append_assoc,List.singleton_append,hr,hda]
    exact hp
  · simp
  · simp
theorem ok71 (n:Int) (hn : -9223372036854775808≤n∧n≤9223372036854775807):Ok Tryz.prog 71 [i64 n] H (.ret (nS n.natAbs)) H:=by
 refine ok_fn hm' Tryz.func71 c71 (by simp) fun hcl => ?_
 have hz:(lim n.natAbs).length≤3:=lim_len_le (by
  have:B ^ 3=1000000000000000000000000000:=by decide
  omega)
 simp -implicitDefEqProofs[i71,r71]
 refine qlp41 (H:=H) (z:=lim n.natAbs) (by omega) (fun env G h3 => ?_) (lim n.natAbs).length n [] _ [] (by simp) hn (by simp) (by simp) (by simp)
 simp -implicitDefEqProofs[h3]
 refine cv_fz 2 hcl rfl ?_
 simp[nS,us_len,map_fz_under,us_under]
 exact List.take_of_length_le (by rw[us_len]; omega)
end
end Go.Proofs.YtogjmpkehjfecaaGreatDoor.Rc
namespace Go.Ab.Lm
theorem lim_drop:∀ (k n:Nat),(lim n).drop k=lim (n / B ^ k)
 | 0,n=>by simp
 | k+1,n=>by
  by_cases h:n=0
  · subst h; rw[lim_0]; simp[lim_0]
  · rw[lim_pos h,List.drop_succ_cons,lim_drop k,Nat.div_div_eq_div_mul,Nat.pow_succ,Nat.mul_comm B]
theorem lim_at {n k:Nat} (h:k<(lim n).length):(lim n)[k]=n / B ^ k % B:=by
 have h1:=lim_drop k n
 rw[List.drop_eq_getElem_cons h]at h1
 have h2:n / B ^ k≠0:=by
  intro e
  rw[e,lim_0]at h1
  cases h1
 rw[lim_pos h2]at h1
 exact(List.cons.inj h1).1
theorem lim_top {n:Nat} (h:n≠0) (hk:(lim n).length-1<(lim n).length):(lim n)[(lim n).length-1]=n / B ^ ((lim n).length-1)∧0<n / B ^ ((lim n).length-1)∧n / B ^ ((lim n).length-1)<B:=by
 have h1:=lim_ge h
 have h2:=lim_lt n
 have h3:0<n / B ^ ((lim n).length-1):=Nat.div_pos h1 (pow_pos' _)
 have h4:n / B ^ ((lim n).length-1)<B:=by
  apply Nat.div_lt_of_lt_mul
  rw[←Nat.pow_succ,show((lim n).length-1).succ=(lim n).length by omega]
  exact h2
 refine⟨?_,h3,h4⟩
 rw[lim_at hk,Nat.mod_eq_of_lt h4]
theorem lim_cons {x n:Nat} (hx:x<B):trimL (x::lim n)=lim (x+B*n):=by
 have h:=trim_lim (l:=x::lim n) (fun y hy=>by
  rcases List.mem_cons.1 hy with rfl | hy
  · exact hx
  · exact lim_dig n y hy)
 rw[h,val,val_lim]
theorem digit_le {R b P:Nat} (hP:0<P) (ht:0<b / P):R / b≤R / P / (b / P):=by
 rw[Nat.div_div_eq_div_mul]
 apply Nat.div_le_div_left
 · exact Nat.mul_div_le b P
 · exact Nat.mul_pos hP ht
theorem div_step {A b x:Nat} (hb:0<b) (hA:A=x+B*(A / B)):A / b=(x+B*(A / B % b)) / b+B*(A / B / b)∧A % b=(x+B*(A / B % b)) % b:=by
 have h1:=Nat.div_add_mod (A / B) b
 generalize A / B=Q at *
 have h2:A=(x+B*(Q % b))+b*(B*(Q / b)):=by
  rw[hA]
  conv=>lhs; rw[←h1]
  rw[Nat.mul_add,Nat.mul_left_comm]
  omega
 rw[h2]
 exact⟨Nat.add_mul_div_left _ _ hb,Nat.add_mul_mod_self_left _ _ _⟩
end Go.Ab.Lm
namespace Go.Proofs.YtogjmpkehjfecaaGreatDoor.Rc
open Go.Ab Go.Ab.Shr
theorem oc0 {G:List AO} {p:Nat} {c:List SV} {T:TypeId} {v:Nat} (h:G[p]? = some ⟨c,T,v,true⟩):objCells G p v=c:=objCells_of (o:=⟨c,T,v,true⟩) h rfl
theorem blk_get {V:List Int} {n ch i q:Nat} (hV:V.length=4*n) (hc:ch<n) (hi:i<n) (hq:q<4) (hne:i≠ch) (f:Nat->Int):(blk4 V ch f).getD (i*4+q) 0=V.getD (i*4+q) 0:=by
 simp only[List.getD_eq_getElem?_getD,blk4]
 congr 1
 by_cases hlt:i<ch
 · rw[List.getElem?_append_left (by simp; omega),List.getElem?_take_of_lt (by omega)]
 · rw[List.getElem?_append_right (by simp; omega),List.getElem?_append_right (by simp; omega),List.getElem?_drop]
   congr 1
   simp; omega
theorem blk_self {V:List Int} {n ch q:Nat} (hV:V.length=4*n) (hc:ch<n) (hq:q<4) (f:Nat->Int):(blk4 V ch f).getD (ch*4+q) 0=f q:=by
 simp only[List.getD_eq_getElem?_getD,blk4]
 rw[List.getElem?_append_right (by simp; omega),List.getElem?_append_left (by simp; omega)]
 have:ch*4+q-(List.take (ch*4) V).length=q:=by simp; omega
 rw[this,List.getElem?_eq_getElem (by simpa using hq),rowF_get hq]; rfl
theorem blk_set {V:List Int} {n ch q:Nat} (hV:V.length=4*n) (hc:ch<n) (hq:q<4) (f:Nat->Int) (y:Int):(blk4 V ch f).set (ch*4+q) y=blk4 V ch (put f q y):=by
 unfold blk4
 have e:ch*4+q-(List.take (ch*4) V).length=q:=by simp; omega
 rw[List.set_append_right _ _ (by simp; omega),e,List.set_append_left _ _ (by simp; omega),rowF_set]
theorem put_mix {q:Nat} {a b:Nat->Int} (h:a q=b q):mixF q a b=mixF (q+1) a b:=by
 rw[←mix_put]
 funext x
 unfold put
 split
 · rename_i e; subst e; rw[mix_at,h]
 · rfl
def hisQ (g:Gm) (i q:Nat):Bool:=match g.ns[i]? with
 | none=>false
 | some x=>decide (x.k=2∧x.p=q)
def rowQ (V:List Int) (i q:Nat):Int:=V.getD (i*4+q) 0
def qoF (a part whole:Int):Int:=IntKind.i64.wrap ((IntKind.i64.wrap (a*part)).tdiv whole)
def rchF (g:Gm) (own:Bool) (S:Nat->List Int) (M R:List Int) (i k q:Nat):Int :=
 if hisQ g i q=own then qoF (R.getD (i*4+q) 0) (brP g S i k) (brW g M i)else R.getD (i*4+q) 0
theorem blk_cpy {V:List Int} {n ch i:Nat} (hV:V.length=4*n) (hi:i<n):List.take (ch*4) (ints V)++(List.take 4 (List.drop (i*4) (ints V))++List.drop (ch*4+4) (ints V))=ints (blk4 V ch (rowQ V i)):=by
 have e:List.take 4 (List.drop (i*4) V)=rowF 4 (rowQ V i):=by
  apply List.ext_getElem?
  intro q
  by_cases hq:q<4
  · rw[List.getElem?_take_of_lt hq,List.getElem?_drop,List.getElem?_eq_getElem (by omega),List.getElem?_eq_getElem (by simpa using hq),rowF_get hq]
    simp[rowQ,show i*4+q<V.length by omega]
  · rw[List.getElem?_eq_none (by simp; omega),List.getElem?_eq_none (by simp; omega)]
 simp only[blk4,<- e,ints,List.map_append,List.map_take,List.map_drop]
section
variable {g:Gm} {H:List AO} {c:TC}
set_option maxRecDepth 10000 in
theorem tlp51_1 (hW:Wg g) (hc:c.Ok g) {i k ch:Nat} (hi:i<g.ns.length) (hch:ch<g.ns.length) (hne:i≠ch) {s:TS} {R O:List Int} (hR:R.length=4*g.ns.length) (hO:O.length=4*g.ns.length) {x20 x21 x22:SV} {N:Nat} {K:XE->Env->List AO->Prop}
 (hexit:∀ env G',TW g H c { s with R:=blk4 R ch (mixF g.pl.toNat (rchF g false s.S c.M R i k) (rowQ R i)),O:=blk4 O ch (mixF g.pl.toNat (rchF g true s.S c.M O i k) (rowQ O i)) } G' →
  env.get 0=.ptr (.own (pW H g) 0 0 0 0) 0->env.get 1=i64 i->env.get 4=.ptr (.slc (nds g.ns) g.ns.length) (i*6)->env.get 20=x20->env.get 21=x21->env.get 22=x22->K (.exit 2) env G') :
 ∀ (m q:Nat) (env:Env) (G:List AO),((q+m:Nat):Int)=g.pl →
  TW g H c { s with R:=blk4 R ch (mixF q (rchF g false s.S c.M R i k) (rowQ R i)),O:=blk4 O ch (mixF q (rchF g true s.S c.M O i k) (rowQ O i)) } G →
  env.get 0=.ptr (.own (pW H g) 0 0 0 0) 0->env.get 1=i64 i->env.get 4=.ptr (.slc (nds g.ns) g.ns.length) (i*6)->env.get 6=i64 ch->env.get 7=i64 (brP g s.S i k)->env.get 8=i64 (brW g c.M i)->env.get 20=x20->env.get 21=x21->env.get 22=x22->env.get 64=i64 g.pl->env.get 65=i64 q →
  LI Tryz.prog N drawB l58_1 env G K:=by
 have hp4:=hW.gd.p4
 have hn:=hW.gd.n
 have hx:g.ns[i]? = some g.ns[i]:=List.getElem?_eq_getElem hi
 have hwn:=brW_ne hc hi
 intro m
 induction m with
 | zero =>
  intro q env G hq h h0 h1 h4 h6 h7 h8 h20 h21 h22 h64 h65
  refine li_go hm l58_1.eq_1 ?_
  have e:q=g.pl.toNat:=by omega
  rw[e]at h
  simp -implicitDefEqProofs[h64,h65,show ¬ (q:Int)<g.pl by omega]
  exact hexit _ _ h (by simp[h0]) (by simp[h1]) (by simp[h4]) (by simp[h20]) (by simp[h21]) (by simp[h22])
 | succ m ih =>
  intro q env G hq h h0 h1 h4 h6 h7 h8 h20 h21 h22 h64 h65
  refine li_go hm l58_1.eq_1 ?_
  have hq4:q<4:=by omega
  have hqp:(q:Int)<g.pl:=by omega
  have hw:=h.cw0
  have w1:=wrap_suc (show q<9223372036854775807 by omega)
  by_cases hh:hisQ g i q=true
  · have hk:g.ns[i].k=2∧g.ns[i].p=q:=by simpa[hisQ,hx]using hh
    have eR:rchF g false s.S c.M R i k q=R.getD (i*4+q) 0:=by simp[rchF,hh]
    have eO:rchF g true s.S c.M O i k q=qoF (O.getD (i*4+q) 0) (brP g s.S i k) (brW g c.M i):=by simp[rchF,hh]
    have eP:=mix_put q (rchF g true s.S c.M O i k) (rowQ O i)
    rw[put_mix (q:=q) (a:=rchF g false s.S c.M R i k) (b:=(rowQ R i)) eR]at h
    have hO2:=oc0 h.o
    have hg:=blk_get hO hch hi hq4 hne (mixF q (rchF g true s.S c.M O i k) (rowQ O i))
    have hs:=blk_set hO hch hq4 (mixF q (rchF g true s.S c.M O i k) (rowQ O i))
    have hl:=blk_len hO hch (mixF q (rchF g true s.S c.M O i k) (rowQ O i))
    generalize hF:mixF q (rchF g true s.S c.M O i k) (rowQ O i)=F at *
    have hst:=setObj_some h.o
    have eI:(ints (blk4 O ch F))[i*4+q]?.getD .any=i64 (O.getD (i*4+q) 0):=by rw[ints_at (by omega),hg]
    have hse:∀ y:Int,List.take (ch*4+q) (ints (blk4 O ch F))++i64 y::List.drop (ch*4+q+1) (ints (blk4 O ch F))=ints (blk4 O ch (put F q y)):=fun y=>by rw[ints_set (by omega),hs]
    have hF2:=h.setO (X:=blk4 O ch (put F q (qoF (O.getD (i*4+q) 0) (brP g s.S i k) (brW g c.M i)))) (blk_len hO hch _)
    rw[←eO,eP]at hF2
    simp only[qoF]at eO
    generalize O.getD (i*4+q) 0=y at *
    simp -implicitDefEqProofs[h0,h1,h4,h6,h7,h8,h64,h65,hqp,hw,wHead,hi,nd0 hi,nd1 hi,nds_len,hk.1,hk.2,hO2,hch,hst,hq4,hl,hwn,eI,hse]
    repeat (refine⟨by omega,?_⟩)
    rw[←eO,eP]
    refine ih (q+1) _ _ (by omega) hF2 ?_ ?_ ?_ ?_ ?_ ?_ ?_ ?_ ?_ ?_ ?_
    · simp
    · simp
    · simp
    · simp
    · simp
    · simp
    · simp[h20]
    · simp[h21]
    · simp[h22]
    · simp
    · simp[w1]
  · have hh':hisQ g i q=false:=by simpa using hh
    have eR:rchF g false s.S c.M R i k q=qoF (R.getD (i*4+q) 0) (brP g s.S i k) (brW g c.M i):=by simp[rchF,hh']
    have eO:rchF g true s.S c.M O i k q=O.getD (i*4+q) 0:=by simp[rchF,hh']
    have eP:=mix_put q (rchF g false s.S c.M R i k) (rowQ R i)
    rw[put_mix (q:=q) (a:=rchF g true s.S c.M O i k) (b:=(rowQ O i)) eO]at h
    have hR2:=oc0 h.r
    have hg:=blk_get hR hch hi hq4 hne (mixF q (rchF g false s.S c.M R i k) (rowQ R i))
    have hs:=blk_set hR hch hq4 (mixF q (rchF g false s.S c.M R i k) (rowQ R i))
    have hl:=blk_len hR hch (mixF q (rchF g false s.S c.M R i k) (rowQ R i))
    generalize hF:mixF q (rchF g false s.S c.M R i k) (rowQ R i)=F at *
    have hst:=setObj_some h.r
    have eI:(ints (blk4 R ch F))[i*4+q]?.getD .any=i64 (R.getD (i*4+q) 0):=by rw[ints_at (by omega),hg]
    have hse:∀ y:Int,List.take (ch*4+q) (ints (blk4 R ch F))++i64 y::List.drop (ch*4+q+1) (ints (blk4 R ch F))=ints (blk4 R ch (put F q y)):=fun y=>by rw[ints_set (by omega),hs]
    have hF2:=h.setR (X:=blk4 R ch (put F q (qoF (R.getD (i*4+q) 0) (brP g s.S i k) (brW g c.M i)))) (blk_len hR hch _)
    rw[←eR,eP]at hF2
    simp only[qoF]at eR
    generalize R.getD (i*4+q) 0=y at *
    by_cases hk:g.ns[i].k=2
    · have hp:¬ g.ns[i].p=q:=fun e=>by simp[hisQ,hx,hk,e]at hh
      simp -implicitDefEqProofs[h0,h1,h4,h6,h7,h8,h64,h65,hqp,hw,wHead,hi,nd0 hi,nd1 hi,nds_len,hk,hp,hR2,hch,hst,hq4,hl,hwn,eI,hse]
      repeat (refine⟨by omega,?_⟩)
      rw[←eR,eP]
      refine ih (q+1) _ _ (by omega) hF2 ?_ ?_ ?_ ?_ ?_ ?_ ?_ ?_ ?_ ?_ ?_
      · simp
      · simp
      · simp
      · simp
      · simp
      · simp
      · simp[h20]
      · simp[h21]
      · simp[h22]
      · simp
      · simp[w1]
    · simp -implicitDefEqProofs[h0,h1,h4,h6,h7,h8,h64,h65,hqp,hw,wHead,hi,nd0 hi,nd1 hi,nds_len,hk,hR2,hch,hst,hq4,hl,hwn,eI,hse]
      repeat (refine⟨by omega,?_⟩)
      rw[←eR,eP]
      refine ih (q+1) _ _ (by omega) hF2 ?_ ?_ ?_ ?_ ?_ ?_ ?_ ?_ ?_ ?_ ?_
      · simp
      · simp
      · simp
      · simp
      · simp
      · simp
      · simp[h20]
      · simp[h21]
      · simp[h22]
      · simp
      · simp[w1]
def chR (g:Gm) (own:Bool) (S:Nat->List Int) (M R:List Int) (i k:Nat):List Int:=match g.ns[i]? with
 | none=>R
 | some x=>blk4 R (x.nx.getD k 0).toNat (mixF g.pl.toNat (rchF g own S M R i k) (rowQ R i))
def chsR (g:Gm) (own:Bool) (S:Nat->List Int) (M R:List Int) (i:Nat):Nat->List Int
 | 0=>R
 | k+1=>chR g own S M (chsR g own S M R i k) i k
theorem chs_len {g:Gm} (hW:Wg g) {own:Bool} {S:Nat->List Int} {M R:List Int} {i:Nat} (hi:i<g.ns.length) (hR:R.length=4*g.ns.length):∀ k,k≤g.ns[i].nx.length->(chsR g own S M R i k).length=4*g.ns.length
 | 0,_=>hR
 | k+1,hk=>by
  have hx:g.ns[i]? = some g.ns[i]:=List.getElem?_eq_getElem hi
  have h1:=chs_len hW hi hR k (by omega) (own:=own) (S:=S) (M:=M)
  have hkl:k<g.ns[i].nx.length:=by omega
  have hch:=(hW.wf.nf i hi).ch _ (List.getElem_mem hkl)
  simp only[chsR,chR,hx]
  have e:g.ns[i].nx.getD k 0=g.ns[i].nx[k]:=by simp[hkl]
  rw[e]
  exact blk_len h1 (by omega) _
set_option maxRecDepth 10000 in
theorem tlp51_0 (hW:Wg g) (hc:c.Ok g) {i:Nat} (hi:i<g.ns.length) {s:TS} {R O:List Int} (hR:R.length=4*g.ns.length) (hO:O.length=4*g.ns.length) {N:Nat} {K:XE->Env->List AO->Prop}
 (hexit:∀ env G',TW g H c { s with R:=chsR g false s.S c.M R i g.ns[i].nx.length,O:=chsR g true s.S c.M O i g.ns[i].nx.length } G'->K (.exit 0) env G') :
 ∀ (m k:Nat) (env:Env) (G:List AO),k+m=g.ns[i].nx.length →
  TW g H c { s with R:=chsR g false s.S c.M R i k,O:=chsR g true s.S c.M O i k } G →
  env.get 0=.ptr (.own (pW H g) 0 0 0 0) 0->env.get 1=i64 i->env.get 4=.ptr (.slc (nds g.ns) g.ns.length) (i*6)->env.get 20=.slc (ints g.ns[i].nx) g.ns[i].nx.length->env.get 21=i64 g.ns[i].nx.length->env.get 22=i64 k →
  LI Tryz.prog N drawB l58_0 env G K:=by
 have hn:=hW.gd.n
 have hnx60:g.ns[i].nx.length≤60:=nx_of (hW.gd.e _ (List.getElem_mem hi))
 have hx:g.ns[i]? = some g.ns[i]:=List.getElem?_eq_getElem hi
 have hp1:=hW.gd.p1
 have hp4:=hW.gd.p4
 intro m
 induction m with
 | zero =>
  intro k env G hk h h0 h1 h4 h20 h21 h22
  refine li_go hm l58_0.eq_1 ?_
  have e:k=g.ns[i].nx.length:=by omega
  subst e
  simp -implicitDefEqProofs[h21,h22]
  exact hexit _ _ h
 | succ m ih =>
  intro k env G hk h h0 h1 h4 h20 h21 h22
  refine li_go hm l58_0.eq_1 ?_
  have hkl:k<g.ns[i].nx.length:=by omega
  have hch:=(hW.wf.nf i hi).ch _ (List.getElem_mem hkl)
  have hcn:((g.ns[i].nx[k].toNat:Nat):Int)=g.ns[i].nx[k]:=by omega
  have hgd:g.ns[i].nx.getD k 0=g.ns[i].nx[k]:=by simp[hkl]
  have hRl:=chs_len hW hi hR k (by omega) (own:=false) (S:=s.S) (M:=c.M)
  have hOl:=chs_len hW hi hO k (by omega) (own:=true) (S:=s.S) (M:=c.M)
  have key1:chsR g false s.S c.M R i (k+1)=blk4 (chsR g false s.S c.M R i k) g.ns[i].nx[k].toNat (mixF g.pl.toNat (rchF g false s.S c.M (chsR g false s.S c.M R i k) i k) (rowQ (chsR g false s.S c.M R i k) i)):=by simp only[chsR,chR,hx,hgd]
  have key2:chsR g true s.S c.M O i (k+1)=blk4 (chsR g true s.S c.M O i k) g.ns[i].nx[k].toNat (mixF g.pl.toNat (rchF g true s.S c.M (chsR g true s.S c.M O i k) i k) (rowQ (chsR g true s.S c.M O i k) i)):=by simp only[chsR,chR,hx,hgd]
  have ih2:=fun(env:Env) (G:List AO)=>ih (k+1) env G (by omega)
  rw[key1,key2]at ih2
  generalize chsR g false s.S c.M R i k=R1 at *
  generalize chsR g true s.S c.M O i k=O1 at *
  have hw:=h.cw0
  have w1:=wrap_suc (show k<9223372036854775807 by omega)
  simp -implicitDefEqProofs[h0,h1,h4,h20,h21,h22,hkl]
  have hcall:=ok89 hW h [] hi hkl
  rw[List.append_nil]at hcall
  refine⟨by omega,call_go hcall ?_⟩
  generalize hc2:g.ns[i].nx[k].toNat=ch at *
  have hchn:ch<g.ns.length:=by omega
  rw[←hcn]
  have hR2:=oc0 h.r
  have hO2:=oc0 h.o
  have hs1:=setObj_some h.r
  have hA:=h.setR (X:=blk4 R1 ch (rowQ R1 i)) (blk_len hRl hchn _)
  have hs2:=setObj_some hA.o
  have hO3:=oc0 hA.o
  have hB:=hA.setO (X:=blk4 O1 ch (rowQ O1 i)) (blk_len hOl hchn _)
  have hw2:=hB.cw0
  have m1:min 4 (R1.length-i*4)=4:=by omega
  have m2:min 4 (O1.length-i*4)=4:=by omega
  have c1:∀ l:List Int,cellsOk (List.take 4 (List.drop (i*4) (ints l))):=fun l=>by rw[ints_drop,ints_take]; simp
  simp -implicitDefEqProofs[h0,h1,h4,h20,h21,h22,hw,hw2,wHead,hR2,hO2,hO3,hi,hchn,m1,m2,c1,hs1,hs2,blk_cpy hRl hi,blk_cpy hOl hi]
  repeat (refine⟨by omega,?_⟩)
  rw[←mix_0 (rchF g false s.S c.M R1 i k) (rowQ R1 i),<- mix_0 (rchF g true s.S c.M O1 i k) (rowQ O1 i)]at hB
  have hne:i≠ch:=by omega
  refine tlp51_1 (H:=H) hW hc (k:=k) hi hchn hne (s:=s) (R:=R1) (O:=O1) hRl hOl (x20:=.slc (ints g.ns[i].nx) g.ns[i].nx.length) (x21:=i64 g.ns[i].nx.length) (x22:=i64 k) (fun env G' hG' g0 g1 g4 g20 g21 g22 => ?_) g.pl.toNat 0 _ _ (by omega) ?_ (by simp) (by simp) (by simp) (by simp) (by simp) (by simp) (by simp) (by simp) (by simp) (by simp) (by simp)
  · simp -implicitDefEqProofs[g0,g1,g4,g20,g21,g22]
    refine ih2 _ _ hG' ?_ ?_ ?_ ?_ ?_ ?_
    · simp[g0]
    · simp[g1]
    · simp[g4]
    · simp[g20]
    · simp[g21]
    · simp[w1]
  · rw[mix_0,mix_0]at hB ⊢
    exact hB
set_option maxRecDepth 10000 in
theorem ok58 (hW:Wg g) (hc:c.Ok g) {s:TS} {G:List AO} (h:TW g H c s G) {i:Nat} (hi:i<g.ns.length) :
 OkP Tryz.prog 58 [.ptr (.own (pW H g) 0 0 0 0) 0,i64 i] G fun out G'=>out=.ret (.tup [])∧TW g H c { s with R:=chsR g false s.S c.M s.R i g.ns[i].nx.length,O:=chsR g true s.S c.M s.O i g.ns[i].nx.length } G':=by
 have hlt:=h.ltw
 have hn:=hW.gd.n
 have hw:=h.cw0
 refine okP_fn hm Tryz.func58 c58 (by simp[hlt]) fun hcl => ?_
 simp -implicitDefEqProofs[i58,r58,hw,wHead,hi,nd3 hi,nds_len]
 repeat (refine⟨by omega,?_⟩)
 refine tlp51_0 (H:=H) hW hc hi (s:=s) (R:=s.R) (O:=s.O) h.l.R h.l.O (fun env G' hG' => ?_) g.ns[i].nx.length 0 _ _ (by omega) h (by simp) (by simp) (by simp) (by simp) (by simp) (by simp)
 simp -implicitDefEqProofs
 exact⟨_,_,⟨rfl,hG'⟩,cv_id⟩
end
end Go.Proofs.YtogjmpkehjfecaaGreatDoor.Rc
namespace Go.Proofs.YtogjmpkehjfecaaGreatDoor.Rc
open Go.Ab Go.Ab.Lm
section
variable {H X:List AO}
set_option maxRecDepth 10000 in
theorem qlp69p {l m0:List Nat} {k v:Nat} (hk:X[k]? = some ⟨us l,114,v,true⟩) {N:Nat} {K:XE->Env->List AO->Prop} (hexit:∀ env,env.get 0=.own k 0 (trimL m0).length 1 v->K (.exit 0) env X) :
 ∀ (n:Nat) (m:List Nat) (env:Env) (s:List Nat),n<1000000->m.length=n->m++s=l->trimL m=trimL m0->env.get 0=.own k 0 m.length 1 v->LI Tryz.prog N drawB l130_0 env X K:=by
 intro n
 induction n with
 | zero =>
  intro m env s hn hm0 hs ht h0
  refine li_go hm' l130_0.eq_1 ?_
  have:m=[]:=List.eq_nil_of_length_eq_zero hm0
  subst this
  simp -implicitDefEqProofs[h0]
  refine hexit _ ?_
  rw[←ht]; simp[trimL]
 | succ n ih =>
  intro m env s hn hml hs ht h0
  refine li_go hm' l130_0.eq_1 ?_
  obtain⟨m',y,rfl⟩:∃ m' y,m=m'++[y]:=⟨m.dropLast,m.getLast (by intro e; rw[e]at hml; simp at hml),(List.dropLast_concat_getLast _).symm⟩
  have hm':m'.length=n:=by simp at hml; exact hml
  have w1:IntKind.i64.wrap (n:Int)=n:=wrap_nat (by omega)
  have hc:=objCells_of (o:=⟨us l,114,v,true⟩) hk rfl
  have hln:n<l.length:=by rw[←hs]; simp; omega
  have e2:(us l)[n]?.getD .any=.val (.int .u32 y):=by
   rw[us_at hln]
   have:l[n]=y:=by subst hs; simp[List.getElem_append,hm']
   rw[this]; rfl
  have e2':∀ h,(us l)[n]'h=.val (.int .u32 y):=fun h=>by
   have:=e2
   rw[List.getElem?_eq_getElem h]at this
   simpa using this
  have hll:(us l).length=l.length:=us_len l
  by_cases hy:y=0
  · subst hy
    simp -implicitDefEqProofs[h0,w1,hm',hc,e2,e2',hll]
    repeat (refine⟨by omega,?_⟩)
    refine ih m' _ ([0]++s) (by omega) hm' (by rw[←hs]; simp) (by rw[←ht,trim_snoc0]) ?_
    simp[hm']
  · have hy':¬ (y:Int)=0:=by omega
    simp -implicitDefEqProofs[h0,w1,hm',hc,e2,e2',hll,hy,hy']
    repeat (refine⟨by omega,?_⟩)
    refine hexit _ ?_
    rw[←ht,trim_snoc hy]
    simp[hm']
theorem ok130p {l m s:List Nat} {k v:Nat} (hk:X[k]? = some ⟨us l,114,v,true⟩) (hs:m++s=l) (hl:m.length<1000000):OkP Tryz.prog 130 [.own k 0 m.length 1 v] X fun o X'=>o=.ret (.own k 0 (trimL m).length 1 v)∧X'=X:=by
 have hlt:=getElem?_lt hk
 refine okP_fn hm' Tryz.func130 c130 (by simp[hlt]) fun hcl => ?_
 simp -implicitDefEqProofs[i130,r130]
 refine qlp69p (m0:=m) hk (fun env h0 => ?_) m.length m _ s hl rfl hs rfl (by simp)
 simp -implicitDefEqProofs[h0]
 exact⟨_,_,⟨rfl,rfl⟩,cv_id⟩
theorem fz_trimp {n:Nat} {L:List AO} {l m s:List Nat} {k d v:Nat} (hs:m++s=l) (h:L[k]? = some ⟨us l,114,v,true⟩):SV.fz n [] L (d+2) (.own (n+k) 0 (trimL m).length 1 v)=.slc (us (trimL m)) (trimL m).length:=by
 have hl:=trim_len m
 have e:(us l).take (trimL m).length=us (trimL m):=by
  unfold us
  rw[←List.map_take,<- hs,List.take_append_of_le_length hl,trim_take]
 have hll:(trimL m).length≤l.length:=by rw[←hs]; simp; omega
 rw[fz_own,h]
 simp[placeOf,us_len,map_fz_under,us_under,e,hll]
theorem qlp68_1 {R n:Nat} {y:List Nat} {x0 x4 x6 x7 x9:SV} (hy:y.length=n) (hn:1≤n) (hR:R / B ^ (n-1)<B*B) (hRl:(lim R).length<1000000) (hnl:n<1000000) {N:Nat} {K:XE->Env->List AO->Prop}
 (hexit:∀ env,env.get 0=x0->env.get 1=.slc (us y) y.length->env.get 4=x4->env.get 5=nS R->env.get 6=x6->env.get 7=x7->env.get 9=x9->env.get 10=.val (.int .u64 (R / B ^ (n-1):Nat))->K (.exit 2) env X) :
 ∀ (m:Nat) (k:Nat) (env:Env),k≤(lim R).length->n-1+m=max k (n-1)->env.get 0=x0->env.get 1=.slc (us y) y.length->env.get 4=x4->env.get 5=nS R->env.get 6=x6->env.get 7=x7->env.get 9=x9 →
  env.get 10=.val (.int .u64 (R / B ^ k:Nat))->(k<n-1->R / B ^ k=0)->env.get 11=i64 ((k:Int)-1)->LI Tryz.prog N drawB l99_1 env X K:=by
 have hB:B=1000000000:=rfl
 have wy:IntKind.i64.wrap ((y.length:Int)-1)=(y.length:Int)-1:=wrap_id (by omega) (by omega)
 intro m
 induction m with
 | zero =>
  intro k env hk hm h0 h1 h4 h5 h6 h7 h9 h10 hz h11
  refine li_go hm' l99_1.eq_1 ?_
  have hkn:k≤n-1:=by omega
  have e:R / B ^ k=R / B ^ (n-1):=by
   by_cases e:k=n-1
   · rw[e]
   · rw[hz (by omega)]
     have h1:=hz (by omega)
     have h2:R / B ^ (n-1)≤R / B ^ k:=Nat.div_le_div_left (Nat.pow_le_pow_right B_pos (by omega)) (pow_pos' k)
     rw[h1]at h2
     exact(Nat.le_zero.1 h2).symm
  rw[e]at h10
  simp -implicitDefEqProofs[h0,h1,h4,h5,h6,h7,h9,h10,h11,wy,show ¬ (y.length:Int)-1≤(k:Int)-1 by omega]
  exact hexit _ (by simp[h0]) (by simp[h1]) (by simp[h4]) (by simp[h5]) (by simp[h6]) (by simp[h7]) (by simp[h9]) (by simp[h10])
 | succ m ih =>
  intro k env hk hm h0 h1 h4 h5 h6 h7 h9 h10 hz h11
  refine li_go hm' l99_1.eq_1 ?_
  obtain⟨j,rfl⟩:∃ j,k=j+1:=⟨k-1,by omega⟩
  have hjR:j<(lim R).length:=by omega
  have ej:((j+1:Nat):Int)-1=j:=by omega
  rw[ej]at h11
  have w1:IntKind.i64.wrap ((j:Int)-1)=(j:Int)-1:=wrap_id (by omega) (by omega)
  have g:(us (lim R))[j]?.getD .any=.val (.int .u32 (lim R)[j]):=us_at hjR
  have g':∀ h,(us (lim R))[j]'h=.val (.int .u32 (lim R)[j]):=fun h=>us_get hjR h
  have dj:=lim_dig R _ (List.getElem_mem hjR)
  have hs:R / B ^ j=(R / B ^ (j+1))*B+(lim R)[j]:=by
   rw[lim_at hjR,Nat.pow_succ,<- Nat.div_div_eq_div_mul]
   have:=Nat.div_add_mod (R / B ^ j) B
   rw[Nat.mul_comm]at this
   exact this.symm
  have hjb:R / B ^ j≤R / B ^ (n-1):=Nat.div_le_div_left (Nat.pow_le_pow_right B_pos (by omega)) (pow_pos' _)
  have hBB:B*B=1000000000000000000:=rfl
  obtain⟨u,hu⟩:∃ u,u=R / B ^ (j+1):=⟨_,rfl⟩
  obtain⟨t,ht⟩:∃ t,t=R / B ^ j:=⟨_,rfl⟩
  obtain⟨p,hp⟩:∃ p,p=u*B:=⟨_,rfl⟩
  rw[←hu,<- ht,<- hp]at hs
  rw[←hu]at h10
  have wp:IntKind.u64.wrap ((u:Int)*1000000000)=(p:Int):=by
   rw[show(u:Int)*1000000000=((p:Nat):Int)by rw[hp,hB]; simp,wu64 (by omega)]
  have wr:=wu64 (n:=(lim R)[j]) (by omega)
  have wt:IntKind.u64.wrap ((p:Int)+((lim R)[j]:Nat))=(t:Int):=by
   rw[show(p:Int)+((lim R)[j]:Nat)=((t:Nat):Int)by omega,wu64 (by omega)]
  have hih:=ih j
  rw[←ht]at hih
  simp only[nS]at h5 hih
  simp -implicitDefEqProofs[h0,h1,h4,h5,h6,h7,h9,h10,h11,wy,show(y.length:Int)-1≤(j:Int)by omega,hjR,us_len,g,g',wp,wr,wt]
  repeat (refine⟨by omega,?_⟩)
  refine hih _ (by omega) (by omega) ?_ ?_ ?_ ?_ ?_ ?_ ?_ ?_ (fun h=>by omega) ?_
  · simp[h0]
  · simp
  · simp[h4]
  · simp
  · simp[h6]
  · simp[h7]
  · simp[h9]
  · simp
  · simp[w1]
theorem qlp68_2 {R b:Nat} {x0 x4 x6 x7 x9:SV} (hb:0<b) (hRl:(lim R).length<100000) (hbl:(lim b).length<100000) {N:Nat} {K:XE->Env->List AO->Prop}
 (hexit:∀ env,env.get 0=x0->env.get 1=nS b->env.get 4=x4->env.get 5=nS R->env.get 6=x6->env.get 7=x7->env.get 9=x9->env.get 12=.val (.int .u64 (R / b:Nat))->K (.exit 4) env X) :
 ∀ (d:Nat) (env:Env),d<B->R / b≤d->env.get 0=x0->env.get 1=nS b->env.get 4=x4->env.get 5=nS R->env.get 6=x6->env.get 7=x7->env.get 9=x9->env.get 12=.val (.int .u64 (d:Nat))->LI Tryz.prog N drawB l99_2 env X K:=by
 have hB:B=1000000000:=rfl
 intro d
 induction d with
 | zero =>
  intro env hd hq h0 h1 h4 h5 h6 h7 h9 h12
  refine li_go hm' l99_2.eq_1 ?_
  have w:=wu32 (n:=0) (by omega)
  have hl0:(lim 0).length=0:=by rw[lim_0]; rfl
  have h42:=fun H=>ok103 (H:=H) (a:=b) (b:=0) (by omega)
  have h44:=fun H=>ok105 (H:=H) (a:=b*0) (b:=R) (by rw[Nat.mul_zero]; omega) (by omega)
  rw[Nat.mul_zero]at h42 h44
  simp -implicitDefEqProofs[h0,h1,h4,h5,h6,h7,h9,h12]
  refine call_go (ok129 (n:=0) (by decide)) ?_
  simp -implicitDefEqProofs[h0,h1,h4,h5,h6,h7,h9,h12]
  refine call_go (h42 _) ?_
  simp -implicitDefEqProofs[h0,h1,h4,h5,h6,h7,h9,h12]
  refine call_go (h44 _) ?_
  have e:¬ 0<ordN 0 R:=by unfold ordN; split<;>simp
  have hz:R / b=0:=Nat.le_zero.1 hq
  rw[hz]at hexit
  simp -implicitDefEqProofs[e,h0,h1,h4,h5,h6,h7,h9,h12]
  exact hexit _ (by simp[h0]) (by simp[h1]) (by simp[h4]) (by simp[h5]) (by simp[h6]) (by simp[h7]) (by simp[h9]) (by simp[h12])
 | succ d ih =>
  intro env hd hq h0 h1 h4 h5 h6 h7 h9 h12
  refine li_go hm' l99_2.eq_1 ?_
  obtain⟨c,hc⟩:∃ c,c=d+1:=⟨_,rfl⟩
  rw[←hc]at h12 hd hq
  have w:=wu32 (n:=c) (by omega)
  have hl1:(lim c).length≤1:=lim_len_le (by simpa using hd)
  have hlm:(lim (b*c)).length≤(lim b).length+1:=lim_len_le (by
   rw[Nat.pow_succ]
   exact Nat.mul_lt_mul'' (lim_lt b) hd)
  have h42:=fun H=>ok103 (H:=H) (a:=b) (b:=c) (by omega)
  have h44:=fun H=>ok105 (H:=H) (a:=b*c) (b:=R) (by omega) (by omega)
  have h82:=fun H=>ok129 (H:=H) (n:=c) hd
  simp -implicitDefEqProofs[h0,h1,h4,h5,h6,h7,h9,h12,w]
  refine call_go (h82 _) ?_
  simp -implicitDefEqProofs[h0,h1,h4,h5,h6,h7,h9,h12]
  refine call_go (h42 _) ?_
  simp -implicitDefEqProofs[h0,h1,h4,h5,h6,h7,h9,h12]
  refine call_go (h44 _) ?_
  by_cases hgt:R<b*c
  · have e:0<ordN (b*c) R:=by unfold ordN; rw[if_neg (by omega),if_pos hgt]; decide
    have wd:IntKind.u64.wrap ((c:Int)-1)=(d:Int):=by rw[show(c:Int)-1=((d:Nat):Int)by omega,wu64 (by omega)]
    simp -implicitDefEqProofs[e,h0,h1,h4,h5,h6,h7,h9,h12,wd]
    refine ih _ (by omega) (by
     have:=Nat.div_lt_of_lt_mul hgt
     omega) ?_ ?_ ?_ ?_ ?_ ?_ ?_ ?_
    · simp[h0]
    · simp[h1]
    · simp[h4]
    · simp[h5]
    · simp[h6]
    · simp[h7]
    · simp[h9]
    · simp
  · have e:¬ 0<ordN (b*c) R:=by unfold ordN; rw[if_neg hgt]; split<;>simp
    have hz:R / b=c:=by
     have:c≤R / b:=(Nat.le_div_iff_mul_le hb).2 (by rw[Nat.mul_comm]; omega)
     omega
    rw[hz]at hexit
    simp -implicitDefEqProofs[e,h0,h1,h4,h5,h6,h7,h9,h12]
    exact hexit _ (by simp[h0]) (by simp[h1]) (by simp[h4]) (by simp[h5]) (by simp[h6]) (by simp[h7]) (by simp[h9]) (by simp[h12])
theorem qlp68_3 {R f k v n:Nat} {A:List AO} {x4:SV} (hf:0<f) (hfB:f<B) (hRl:(lim R).length<100000) {N:Nat} {K:XE->Env->List AO->Prop}
 (hexit:∀ env X l,X[k]? = some ⟨us l,114,v,true⟩->(∀ j,j≠k->X[j]? = A[j]?)->X.length=A.length->(∃ s,∃ m:List Nat,m++s=l∧m.length=(lim R).length∧Dig m∧val m=R / f)->env.get 4=x4->env.get 5=.own k 0 (lim R).length 1 v->K (.exit 6) env X) :
 ∀ (i:Nat) (env:Env) (X:List AO) (l s m:List Nat),i≤(lim R).length->X[k]? = some ⟨us l,114,v,true⟩->(∀ j,j≠k->X[j]? = A[j]?)->X.length=A.length->m++s=l->m.length=(lim R).length->m.take i=(lim R).take i->Dig m->val (m.drop i)=R / B ^ i / f →
  env.get 4=x4->env.get 5=.own k 0 (lim R).length 1 v->env.get 6=nS f->env.get 13=.val (.int .u64 (R / B ^ i % f:Nat))->env.get 14=i64 ((i:Int)-1)->LI Tryz.prog N drawB l99_3 env X K:=by
 have hB:B=1000000000:=rfl
 have hBB:B*B=1000000000000000000:=rfl
 have elf:lim f=[f]:=by
  rw[lim_pos (by omega),Nat.mod_eq_of_lt hfB,Nat.div_eq_of_lt hfB,lim_0]
 intro i
 induction i with
 | zero =>
  intro env X l s m hi hX ho hXl hms hml ht hd hv h4 h5 h6 h13 h14
  refine li_go hm' l99_3.eq_1 ?_
  simp -implicitDefEqProofs[h4,h5,h6,h13,h14]
  exact hexit _ X l hX ho hXl ⟨s,m,hms,hml,hd,by simpa using hv⟩ (by simp[h4]) (by simp[h5])
 | succ i ih =>
  intro env X l s m hi hX ho hXl hms hml ht hd hv h4 h5 h6 h13 h14
  refine li_go hm' l99_3.eq_1 ?_
  have hiR:i<(lim R).length:=by omega
  have him:i<m.length:=by omega
  have hil:i<l.length:=by rw[←hms]; simp; omega
  have ej:((i+1:Nat):Int)-1=i:=by omega
  rw[ej]at h14
  have w1:IntKind.i64.wrap ((i:Int)-1)=(i:Int)-1:=wrap_id (by omega) (by omega)
  have hli:l[i]=(lim R)[i]:=by
   have h1:l[i]? = (lim R)[i]? := by
    rw[←hms,List.getElem?_append_left him]
    have:=congrArg (fun l=>l[i]?) ht
    simpa[List.getElem?_take]using this
   rw[List.getElem?_eq_getElem hil,List.getElem?_eq_getElem hiR]at h1
   simpa using h1
  have hc:=oc0 hX
  have hst:=setObj_some hX
  have dj:=lim_dig R _ (List.getElem_mem hiR)
  have g:(us l)[i]?.getD .any=.val (.int .u32 (lim R)[i]):=by rw[us_at hil,hli]; rfl
  have g':∀ h,(us l)[i]'h=.val (.int .u32 (lim R)[i]):=fun h=>by rw[us_get hil,hli]; rfl
  have hll:(us l).length=l.length:=us_len l
  obtain⟨Q,hQ⟩:∃ Q,Q=R / B ^ (i+1):=⟨_,rfl⟩
  obtain⟨c,hcc⟩:∃ c,c=Q % f:=⟨_,rfl⟩
  rw[←hQ,<- hcc]at h13
  have hcf:c<f:=by rw[hcc]; exact Nat.mod_lt _ hf
  have hRi:R / B ^ i=(lim R)[i]+B*Q:=by
   rw[lim_at hiR,hQ,Nat.pow_succ,<- Nat.div_div_eq_div_mul]
   exact(Nat.mod_add_div _ _).symm
  obtain⟨p,hp⟩:∃ p,p=c*B:=⟨_,rfl⟩
  obtain⟨t,ht2⟩:∃ t,t=p+(lim R)[i]:=⟨_,rfl⟩
  have hpb:p+B≤B*B:=by
   rw[hp]
   have:(c+1)*B≤B*B:=Nat.mul_le_mul_right B (by omega)
   rw[Nat.add_mul,Nat.one_mul]at this
   exact this
  have wp:IntKind.u64.wrap ((c:Int)*1000000000)=(p:Int):=by
   rw[show(c:Int)*1000000000=((p:Nat):Int)by rw[hp,hB]; simp,wu64 (by omega)]
  have wr:=wu64 (n:=(lim R)[i]) (by omega)
  have wt:IntKind.u64.wrap ((p:Int)+((lim R)[i]:Nat))=(t:Int):=by
   rw[show(p:Int)+((lim R)[i]:Nat)=((t:Nat):Int)by omega,wu64 (by omega)]
  have wf:=wu64 (n:=f) (by omega)
  obtain⟨q,hq⟩:∃ q,q=t / f:=⟨_,rfl⟩
  obtain⟨r,hr⟩:∃ r,r=t % f:=⟨_,rfl⟩
  have hqb:q<B:=by
   rw[hq]
   apply Nat.div_lt_of_lt_mul
   have:(c+1)*B≤f*B:=Nat.mul_le_mul_right B hcf
   rw[Nat.add_mul,Nat.one_mul]at this
   omega
  have td:((t:Int)).tdiv (f:Int)=(q:Int):=by rw[hq]; rfl
  have tm:((t:Int)).tmod (f:Int)=(r:Int):=by rw[hr]; rfl
  have hrf:r<f:=by rw[hr]; exact Nat.mod_lt _ hf
  have wq:=wu64 (n:=q) (by omega)
  have wq2:=wu32 (n:=q) (by omega)
  have wrr:=wu64 (n:=r) (by omega)
  have hset:=us_set hil q
  have hk:=getElem?_lt hX
  have hfz:¬ (f:Int)=0:=by omega
  have ef:us (lim f)=[.val (.int .u32 (f:Int))]:=by rw[elf]; rfl
  have efl:(lim f).length=1:=by rw[elf]; rfl
  simp only[nS,ef,efl]at h6
  have hQf:B*Q=f*(B*(Q / f))+p:=by
   have:=Nat.div_add_mod Q f
   rw[←hcc]at this
   conv=>lhs; rw[←this]
   rw[Nat.mul_add,Nat.mul_left_comm,hp,Nat.mul_comm c B]
  have hts:R / B ^ i=f*(B*(Q / f))+t:=by rw[hRi,hQf,ht2]; omega
  have hdv:R / B ^ i / f=B*(Q / f)+q:=by
   rw[hts,Nat.mul_add_div hf,hq]
  have hmd:R / B ^ i % f=r:=by
   rw[hts,Nat.mul_add_mod,hr]
  have hih:=ih
  rw[hdv,hmd]at hih
  simp -implicitDefEqProofs[h4,h5,h6,h13,h14,hc,hil,hll,hst,g,g',wp,wr,wt,wf,td,tm,wq,wq2,wrr,hset,hfz,hiR]
  repeat (refine⟨by omega,?_⟩)
  refine⟨rfl,?_⟩
  repeat (refine⟨by omega,?_⟩)
  refine hih _ _ (l.set i q) s (m.set i q) (by omega) (by rw[List.getElem?_set_self hk]) (fun j hj=>by rw[List.getElem?_set_ne (fun e=>hj e.symm)]; exact ho j hj) (by rw[List.length_set]; exact hXl) ?_ (by rw[List.length_set]; exact hml) ?_ (hd.set hqb) ?_ ?_ ?_ ?_ ?_ ?_
  · rw[←hms,List.set_append_left _ _ him]
  · apply List.ext_getElem?
    intro j
    have h1:=congrArg (fun l=>l[j]?) ht
    simp only[List.getElem?_take]at h1 ⊢
    by_cases hj:j<i
    · rw[if_pos hj,if_pos hj,List.getElem?_set_ne (by omega)]
      rw[if_pos (by omega),if_pos (by omega)]at h1
      exact h1
    · rw[if_neg hj,if_neg hj]
  · have hms2:i<(m.set i q).length:=by rw[List.length_set]; exact him
    have e1:(m.set i q).drop i=q::m.drop (i+1):=by
     rw[List.drop_eq_getElem_cons hms2,List.getElem_set_self]
     congr 1
     apply List.ext_getElem?
     intro j
     rw[List.getElem?_drop,List.getElem?_drop,List.getElem?_set_ne (by omega)]
    rw[e1,val,hv,<- hQ]
    omega
  · simp[h4]
  · simp
  · simp[nS,ef,efl]
  · simp
  · simp[w1]
end
end Go.Proofs.YtogjmpkehjfecaaGreatDoor.Rc
namespace Go.Proofs.YtogjmpkehjfecaaGreatDoor.Rc
open Go.Ab Go.Ab.Lm
structure DV (H:List AO) (gq j A bb k v:Nat) (X:List AO):Prop where
 low:∀ i,i<H.length->X[i]? = H[i]?
 hq:∃ qs,X[H.length+1]? = some ⟨us qs,114,1,true⟩∧qs.length=gq+1∧Dig qs∧val (qs.drop j)=A / B ^ j / bb
 hr:∃ s,X[k]? = some ⟨us (lim (A / B ^ j % bb)++s),114,v,true⟩
 hk:H.length≤k∧k≠H.length+1
section
variable {H X:List AO}
set_option maxRecDepth 10000 in
theorem qlp68_0 {A bb gq n top:Nat} {x6:SV} (hb:0<bb) (hn:(lim bb).length=n+1) (hA:(lim A).length=n+1+gq) (hl:n+1+gq<50000) (htop:top=bb / B ^ n) (ht0:0<top) (htB:top<B) {N:Nat} {K:XE->Env->List AO->Prop}
 (hexit:∀ env X k v,DV H gq 0 A bb k v X->env.get 4=.own (H.length+1) 0 (gq+1) 1 1->env.get 5=.own k 0 (lim (A % bb)).length 1 v->env.get 6=x6->K (.exit 0) env X) :
 ∀ (j:Nat) (env:Env) (X:List AO) (k v:Nat),j≤gq+1->DV H gq j A bb k v X->env.get 0=nS A->env.get 1=nS bb->env.get 4=.own (H.length+1) 0 (gq+1) 1 1->env.get 5=.own k 0 (lim (A / B ^ j % bb)).length 1 v->env.get 6=x6->env.get 7=.val (.int .u64 (top:Nat))->env.get 9=i64 ((j:Int)-1)->LI Tryz.prog N drawB l99_0 env X K:=by
 have hB:B=1000000000:=rfl
 intro j
 induction j with
 | zero =>
  intro env X k v hj h h0 h1 h4 h5 h6 h7 h9
  refine li_go hm' l99_0.eq_1 ?_
  simp -implicitDefEqProofs[h0,h1,h4,h5,h6,h7,h9]
  exact hexit _ X k v h (by simp[h4]) (by simp[h5]) (by simp[h6])
 | succ i ih =>
  intro env X k v hj h h0 h1 h4 h5 h6 h7 h9
  refine li_go hm' l99_0.eq_1 ?_
  have ej:((i+1:Nat):Int)-1=i:=by omega
  rw[ej]at h9
  have hiA:i<(lim A).length:=by omega
  have w1:IntKind.i64.wrap ((i:Int)-1)=(i:Int)-1:=wrap_id (by omega) (by omega)
  obtain⟨x,hx⟩:∃ x,x=(lim A)[i]:=⟨_,rfl⟩
  have hxB:x<B:=by rw[hx]; exact lim_dig A _ (List.getElem_mem _)
  have g:(us (lim A))[i]?.getD .any=.val (.int .u32 x):=by rw[us_at hiA,hx]; rfl
  have g':∀ h,(us (lim A))[i]'h=.val (.int .u32 x):=fun h=>by rw[us_get hiA,hx]; rfl
  obtain⟨s,hs⟩:=h.hr
  obtain⟨qs,hq1,hq2,hq3,hq4⟩:=h.hq
  obtain⟨r,hr⟩:∃ r,r=A / B ^ (i+1) % bb:=⟨_,rfl⟩
  rw[←hr]at hs h5
  have hrb:r<bb:=by rw[hr]; exact Nat.mod_lt _ hb
  have hrl:=lim_mono (Nat.le_of_lt hrb)
  have hor:=fun L=>oc_at hs L
  have htk:List.take (lim r).length (us (lim r++s))=us (lim r):=by
   unfold us
   rw[List.map_append,List.take_append_of_le_length (by simp),List.take_of_length_le (by simp)]
  have hln:(us (lim r++s)).length=(lim r).length+s.length:=by rw[us_len]; simp
  simp only[nS]at h0
  simp -implicitDefEqProofs[h0,h1,h4,h5,h6,h7,h9,hiA,us_len,g,g',hor,htk,hln]
  repeat (refine⟨by omega,?_⟩)
  refine⟨⟨rfl,rfl,rfl⟩,rfl,?_,?_⟩
  · intro y hy
    obtain⟨z,_,rfl⟩:=List.mem_map.1 hy
    rfl
  repeat (refine⟨by omega,?_⟩)
  obtain⟨R,hR⟩:∃ R,R=x+B*r:=⟨_,rfl⟩
  have eg:SV.val (.int .u32 (x:Int))::us (lim r)=us (x::lim r):=rfl
  have etr:trimL (x::lim r)=lim R:=by rw[lim_cons hxB,hR]
  have hl69:(x::lim r).length<1000000:=by simp; omega
  have hlen:1+(lim r).length=(x::lim r).length:=by simp; omega
  rw[eg,hlen]
  have h69:=fun H=>ok130 (H:=H) (l:=x::lim r) hl69
  rw[etr]at h69
  refine call_give X.length 1 (o:=⟨us (x::lim r),114,1,true⟩) (by simp) rfl ?_ (h69 _) ?_
  · simp[us_len]
    exact List.take_of_length_le (by rw[us_len]; simp)
  have hset0:Ab.setObj (X++[(⟨us (x::lim r),114,1,true⟩:AO)]) X.length AO.dead=X++[⟨[],114,2,false⟩]:=by
   rw[setObj_some (o:=⟨us (x::lim r),114,1,true⟩) (by simp)]
   simp[AO.dead]
  rw[hset0]
  have hAi:A / B ^ i=x+B*(A / B ^ i / B):=by
   rw[hx,lim_at hiA]
   exact(Nat.mod_add_div _ _).symm
  have hdd:A / B ^ i / B=A / B ^ (i+1):=by rw[Nat.div_div_eq_div_mul,Nat.pow_succ]
  obtain⟨ds1,ds2⟩:=div_step hb hAi
  rw[hdd,<- hr,<- hR]at ds1 ds2
  have hRb:R<B*bb:=by
   rw[hR]
   have:B*(r+1)≤B*bb:=Nat.mul_le_mul_left B hrb
   rw[Nat.mul_add,Nat.mul_one]at this
   omega
  have hbbl:=lim_lt bb
  rw[hn]at hbbl
  have hRl:(lim R).length≤n+2:=lim_len_le (by
   rw[Nat.pow_succ,Nat.mul_comm]
   exact Nat.lt_of_lt_of_le hRb (Nat.mul_le_mul_left B (Nat.le_of_lt hbbl)))
  have hlead:R / B ^ n<B*B:=by
   apply Nat.div_lt_of_lt_mul
   rw[←Nat.mul_assoc,<- Nat.pow_succ,Nat.mul_comm]
   exact Nat.lt_of_lt_of_le hRb (Nat.mul_le_mul_left B (Nat.le_of_lt hbbl))
  have hBB:B*B=1000000000000000000:=rfl
  obtain⟨lead,hle⟩:∃ lead,lead=R / B ^ n:=⟨_,rfl⟩
  obtain⟨lq,hlq⟩:∃ lq,lq=lead / top:=⟨_,rfl⟩
  have tdl:((lead:Int)).tdiv (top:Int)=(lq:Int):=by rw[hlq]; rfl
  have hlq1:lq≤lead:=by rw[hlq]; exact Nat.div_le_self _ _
  have wlq:=wu64 (n:=lq) (by omega)
  have htz:¬ (top:Int)=0:=by omega
  have htz2:¬ top=0:=by omega
  obtain⟨d0,hd0⟩:∃ d0,d0=min lq 999999999:=⟨_,rfl⟩
  have wmin:min (lq:Int) 999999999=(d0:Int):=by omega
  have hd1:R / bb≤d0:=by
   have h1:R / bb≤lq:=by
    rw[hlq,hle,htop]
    exact digit_le (pow_pos' n) (by rw[←htop]; exact ht0)
   have h2:R / bb<B:=Nat.div_lt_of_lt_mul (by rw[Nat.mul_comm]; exact hRb)
   omega
  have wR:IntKind.i64.wrap (((lim R).length:Int)-1)=((lim R).length:Int)-1:=wrap_id (by omega) (by omega)
  simp -implicitDefEqProofs[nS,wR,h0,h1,h4,h5,h6,h7,h9]
  refine qlp68_1 (X:=X++[⟨[],114,2,false⟩]) (R:=R) (n:=n+1) (y:=lim bb) (x0:=nS A) (x4:=.own (H.length+1) 0 (gq+1) 1 1) (x6:=x6) (x7:=.val (.int .u64 (top:Nat))) (x9:=i64 i) hn (by omega) (by simpa using hlead) (by omega) (by omega) (fun env k0 k1 k4 k5 k6 k7 k9 k10 => ?_) (max (lim R).length n-n) (lim R).length _ (Nat.le_refl _) (by simp; omega) ?_ ?_ ?_ ?_ ?_ ?_ ?_ ?_ ?_ ?_
  · simp only[Nat.add_sub_cancel,<- hle]at k10
    simp -implicitDefEqProofs[k0,k1,k4,k5,k6,k7,k9,k10,tdl,wlq,htz,htz2,wmin]
    refine qlp68_2 (X:=X++[⟨[],114,2,false⟩]) (R:=R) (b:=bb) (x0:=nS A) (x4:=.own (H.length+1) 0 (gq+1) 1 1) (x6:=x6) (x7:=.val (.int .u64 (top:Nat))) (x9:=i64 i) hb (by omega) (by omega) (fun env m0 m1 m4 m5 m6 m7 m9 m12 => ?_) d0 _ (by omega) hd1 ?_ ?_ ?_ ?_ ?_ ?_ ?_ ?_
    · obtain⟨d,hd⟩:∃ d,d=R / bb:=⟨_,rfl⟩
      rw[←hd]at m12 ds1 hd1
      have hdB:d<B:=by omega
      have wd:=wu32 (n:=d) (by omega)
      have hdl:(lim d).length≤1:=lim_len_le (by simpa using hdB)
      have hbd:bb*d≤R:=by rw[hd]; exact Nat.mul_div_le R bb
      have hbdl:=lim_mono hbd
      have h82:=fun H=>ok129 (H:=H) (n:=d) hdB
      have h42:=fun H=>ok103 (H:=H) (a:=bb) (b:=d) (by omega)
      have h45:=fun H=>ok106k (H:=H) (a:=R) (b:=bb*d) hbd (by omega) (by omega)
      simp -implicitDefEqProofs[m0,m1,m4,m5,m6,m7,m9,m12,wd]
      refine call_go (h82 _) ?_
      simp -implicitDefEqProofs[m0,m1,m4,m5,m6,m7,m9,m12]
      refine call_go (h42 _) ?_
      simp -implicitDefEqProofs[m0,m1,m4,m5,m6,m7,m9,m12]
      refine call_goP (h45 _) ?_
      rintro o G' ⟨z,G,rfl,rfl,hz1,hz2⟩
      have hiq:i<qs.length:=by omega
      have hoq:=fun L=>oc_at hq1 L
      have hsq:=fun L f=>so_at hq1 L f
      have hset:=us_set hiq d
      have hql:(us qs).length=gq+1:=by rw[us_len,hq2]
      simp -implicitDefEqProofs[m0,m1,m4,m5,m6,m7,m9,m12,wd,hoq,hsq,hset,hql]
      repeat (refine⟨by omega,?_⟩)
      refine⟨rfl,?_⟩
      repeat (refine⟨by omega,?_⟩)
      have hmod:R-bb*d=A / B ^ i % bb:=by rw[ds2,hd]; have:=Nat.div_add_mod R bb; omega
      rw[hmod]at hz1
      have hXl:H.length+1<X.length:=getElem?_lt hq1
      have hlow:=h.low
      refine ih _ (X.set (H.length+1) ⟨us (qs.set i d),114,1,true⟩++(⟨[],114,2,false⟩::⟨us z,114,z.length,true⟩::G)) (X.length+1) z.length (by omega) ⟨fun u hu => ?_,⟨qs.set i d,?_,?_,hq3.set hdB,?_⟩,⟨z.drop (trimL z).length,?_⟩,by omega,by omega⟩ ?_ ?_ ?_ ?_ ?_ ?_ ?_
      · rw[List.getElem?_append_left (by rw[List.length_set]; omega),List.getElem?_set_ne (by omega)]
        exact hlow u hu
      · rw[List.getElem?_append_left (by rw[List.length_set]; omega),List.getElem?_set_self hXl]
      · rw[List.length_set]; exact hq2
      · have e1:(qs.set i d).drop i=d::qs.drop (i+1):=by
         rw[List.drop_eq_getElem_cons (by rw[List.length_set]; exact hiq),List.getElem_set_self]
         congr 1
         apply List.ext_getElem?
         intro u
         rw[List.getElem?_drop,List.getElem?_drop,List.getElem?_set_ne (by omega)]
        rw[e1,val,hq4,ds1]
      · rw[List.getElem?_append_right (by rw[List.length_set]; omega),List.length_set,show X.length+1-X.length=1 by omega]
        have e2:lim (A / B ^ i % bb)++z.drop (trimL z).length=z:=by
         rw[←hz1]
         conv=>rhs; rw[←List.take_append_drop (trimL z).length z]
         rw[trim_take]
        rw[e2]; rfl
      · simp[m0]
      · simp[m1]
      · simp[m4]
      · simp[hmod]
      · simp[m6]
      · simp[m7]
      · simp[w1]
    · simp[k0]
    · simp[k1,nS]
    all_goals simp[k4,k5,k6,k7,k9]
  all_goals (first | (simp[nS,h0,h1,h4,h6,h7,h9]; done) | skip)
  · rw[Nat.div_eq_of_lt (lim_lt R)]; simp
  · exact fun _=>Nat.div_eq_of_lt (lim_lt R)
end
end Go.Proofs.YtogjmpkehjfecaaGreatDoor.Rc
namespace Go.Proofs.YtogjmpkehjfecaaGreatDoor.Rc
open Go.Ab Go.Ab.Shr
def upA (A:Nat->List Int) (j:Nat) (X:List Int):Nat->List Int:=fun k=>if k=j then X else A k
theorem upA_self (A:Nat->List Int) (j:Nat) (X:List Int):upA A j X j=X:=by simp[upA]
theorem upA_up (A:Nat->List Int) (j:Nat) (X Y:List Int):upA (upA A j X) j Y=upA A j Y:=by funext k; simp only[upA]; split<;>rfl
theorem upA_id (A:Nat->List Int) (j:Nat):upA A j (A j)=A:=by funext k; simp only[upA]; split; rename_i e; rw[e]; rfl
theorem rowF_self (l:List Int):rowF l.length (fun a=>l.getD a 0)=l:=by
 apply List.ext_getElem?
 intro j
 by_cases h:j<l.length
 · rw[List.getElem?_eq_getElem (by simpa using h),rowF_get h,List.getElem?_eq_getElem h]; simp[h]
 · rw[List.getElem?_eq_none (by simp; omega),List.getElem?_eq_none (by omega)]
theorem mp_of {g:Gm} (hW:Wg g) {i:Nat} (hi:i<g.ns.length) (hk:g.ns[i].k=2):0≤g.ns[i].p∧g.ns[i].p<g.pl:=by
 have h3:=hW.gd.e _ (List.getElem_mem hi)
 unfold Nd.err Nd.move at h3
 rw[if_neg (by omega),if_neg (by omega),if_pos hk]at h3
 split at h3
 · omega
 · split at h3
   · rename_i h4; exact absurd h3 h4
   · rename_i h4
     rw[within1]at h4
     split at h4
     · exact absurd (by decide) h4
     · omega
def dltA (g:Gm) (V R:List Int) (i a:Nat):Int:=match g.ns[i]? with
 | none=>0
 | some x=>IntKind.i64.wrap ((IntKind.i64.wrap (R.getD (i*4+x.p.toNat) 0*IntKind.i64.wrap (V.getD ((x.nx.getD a 0).toNat*4+x.p.toNat) 0-V.getD (i*4+x.p.toNat) 0))).tdiv 1073741824)
def lrnA (g:Gm) (V R:List Int) (A:Nat->List Int) (i:Nat):Nat->List Int:=match g.ns[i]? with
 | none=>A
 | some x=>if x.k=2 then upA A x.i.toNat (rowF x.nx.length fun a=>IntKind.i64.wrap ((A x.i.toNat).getD a 0+dltA g V R i a))else A
section
variable {g:Gm} {H G:List AO} {c:TC} {s:TS}
theorem TW.setA (h:TW g H c s G) {j:Nat} (hj:j<g.is.length) {X:List Int} (hX:X.length=g.acts j):TW g H c { s with A:=upA s.A j X } (G.set (pA H g j) ⟨ints X,3,1,true⟩):=by
 have hlt:=getElem?_lt (h.a j hj)
 have ne:∀ {k:Nat} {x:Option AO},pA H g j≠k->G[k]? = x->(G.set (pA H g j) ⟨ints X,3,1,true⟩)[k]? = x:=fun hn hx=>by rw[List.getElem?_set_ne hn]; exact hx
 constructor
 case l=>exact⟨fun i hi=>by simp only[upA]; split; rename_i e; rw[e]; exact hX; exact h.l.A i hi,h.l.P,h.l.S,h.l.V,h.l.R,h.l.O,h.l.ord,h.l.M,h.l.F⟩
 case len=>simpa using h.len
 case cl=>exact closed_set h.cl _ (by simp)
 case a =>
  intro i hi; by_cases e:i=j
  · subst e; rw[List.getElem?_set_self hlt]; simp[upA]
  · simp only[upA,if_neg e]; exact ne (by unfold pA; omega) (h.a i hi)
 case low=>intro i hi; exact ne (by unfold pA; omega) (h.low i hi)
 case p=>intro i hi; exact ne (by unfold pA pP; omega) (h.p i hi)
 case ss=>intro i hi; exact ne (by unfold pA pS; omega) (h.ss i hi)
 case w=>exact ne (by unfold pA pW; omega) h.w
 case m=>exact ne (by unfold pA pM; omega) h.m
 case f=>exact ne (by unfold pA pF; omega) h.f
 case ao=>exact ne (by unfold pA pAo; omega) h.ao
 case po=>exact ne (by unfold pA pPo; omega) h.po
 case so=>exact ne (by unfold pA pSo; omega) h.so
 case v=>exact ne (by unfold pA pV; omega) h.v
 case r=>exact ne (by unfold pA pR; omega) h.r
 case o=>exact ne (by unfold pA pO; omega) h.o
theorem TW.setP (h:TW g H c s G) {j:Nat} (hj:j<g.is.length) {X:List Int} (hX:X.length=g.acts j):TW g H c { s with P:=upA s.P j X } (G.set (pP H g j) ⟨ints X,3,1,true⟩):=by
 have hlt:=getElem?_lt (h.p j hj)
 have ne:∀ {k:Nat} {x:Option AO},pP H g j≠k->G[k]? = x->(G.set (pP H g j) ⟨ints X,3,1,true⟩)[k]? = x:=fun hn hx=>by rw[List.getElem?_set_ne hn]; exact hx
 constructor
 case l=>exact⟨h.l.A,fun i hi=>by simp only[upA]; split; rename_i e; rw[e]; exact hX; exact h.l.P i hi,h.l.S,h.l.V,h.l.R,h.l.O,h.l.ord,h.l.M,h.l.F⟩
 case len=>simpa using h.len
 case cl=>exact closed_set h.cl _ (by simp)
 case p =>
  intro i hi; by_cases e:i=j
  · subst e; rw[List.getElem?_set_self hlt]; simp[upA]
  · simp only[upA,if_neg e]; exact ne (by unfold pP; omega) (h.p i hi)
 case low=>intro i hi; exact ne (by unfold pP; omega) (h.low i hi)
 case a=>intro i hi; exact ne (by unfold pA pP; omega) (h.a i hi)
 case ss=>intro i hi; exact ne (by unfold pP pS; omega) (h.ss i hi)
 case w=>exact ne (by unfold pP pW; omega) h.w
 case m=>exact ne (by unfold pP pM; omega) h.m
 case f=>exact ne (by unfold pP pF; omega) h.f
 case ao=>exact ne (by unfold pP pAo; omega) h.ao
 case po=>exact ne (by unfold pP pPo; omega) h.po
 case so=>exact ne (by unfold pP pSo; omega) h.so
 case v=>exact ne (by unfold pP pV; omega) h.v
 case r=>exact ne (by unfold pP pR; omega) h.r
 case o=>exact ne (by unfold pP pO; omega) h.o
set_option maxRecDepth 10000 in
theorem tlp52_0 (hW:Wg g) {i:Nat} (hi:i<g.ns.length) (hk:g.ns[i].k=2) {A:Nat->List Int} (hA:(A g.ns[i].i.toNat).length=g.ns[i].nx.length) {N:Nat} {K:XE->Env->List AO->Prop}
 (hexit:∀ env G',TW g H c { s with A:=upA A g.ns[i].i.toNat (rowF g.ns[i].nx.length fun a=>IntKind.i64.wrap ((A g.ns[i].i.toNat).getD a 0+dltA g s.V s.R i a)) } G'->K (.exit 0) env G') :
 ∀ (m a:Nat) (env:Env) (G:List AO),a+m=g.ns[i].nx.length →
  TW g H c { s with A:=upA A g.ns[i].i.toNat (rowF g.ns[i].nx.length (mixF a (fun a=>IntKind.i64.wrap ((A g.ns[i].i.toNat).getD a 0+dltA g s.V s.R i a)) fun a=>(A g.ns[i].i.toNat).getD a 0)) } G →
  env.get 0=.ptr (.own (pW H g) 0 0 0 0) 0->env.get 1=i64 i->env.get 5=.own (pA H g g.ns[i].i.toNat) 0 g.ns[i].nx.length 1 1->env.get 6=i64 g.ns[i].p->env.get 39=.slc (ints g.ns[i].nx) g.ns[i].nx.length->env.get 40=i64 g.ns[i].nx.length->env.get 41=i64 a →
  LI Tryz.prog N drawB l59_0 env G K:=by
 have hn:=hW.gd.n
 have hx:g.ns[i]? = some g.ns[i]:=List.getElem?_eq_getElem hi
 obtain⟨a1,a2,a3,a4,a5⟩:=mv_of hW hi hk
 obtain⟨p1,p2⟩:=mp_of hW hi hk
 have hp4:=hW.gd.p4
 have hpn:((g.ns[i].p.toNat:Nat):Int)=g.ns[i].p:=by omega
 intro m
 induction m with
 | zero =>
  intro a env G ha h h0 h1 h5 h6 h39 h40 h41
  refine li_go hm l59_0.eq_1 ?_
  have e:a=g.ns[i].nx.length:=by omega
  subst e
  simp -implicitDefEqProofs[h40,h41]
  refine hexit _ _ ?_
  have e2:rowF g.ns[i].nx.length (mixF g.ns[i].nx.length (fun a=>IntKind.i64.wrap ((A g.ns[i].i.toNat).getD a 0+dltA g s.V s.R i a)) fun a=>(A g.ns[i].i.toNat).getD a 0)=rowF g.ns[i].nx.length fun a=>IntKind.i64.wrap ((A g.ns[i].i.toNat).getD a 0+dltA g s.V s.R i a):=by
   unfold rowF
   apply List.map_congr_left
   intro x hx
   simp only[List.mem_range]at hx
   simp only[mixF,if_pos hx]
  rw[e2]at h
  exact h
 | succ m ih =>
  intro a env G ha h h0 h1 h5 h6 h39 h40 h41
  refine li_go hm l59_0.eq_1 ?_
  have hal:a<g.ns[i].nx.length:=by omega
  have hch:=(hW.wf.nf i hi).ch _ (List.getElem_mem hal)
  have hcn:((g.ns[i].nx[a].toNat:Nat):Int)=g.ns[i].nx[a]:=by omega
  have hw:=h.cw0
  have hr:=oc0 h.r
  have hv:=oc0 h.v
  have hra:=oc0 (h.a _ a1)
  have hst:=setObj_some (h.a _ a1)
  have eD:dltA g s.V s.R i a=IntKind.i64.wrap ((IntKind.i64.wrap (s.R.getD (i*4+g.ns[i].p.toNat) 0*IntKind.i64.wrap (s.V.getD (g.ns[i].nx[a].toNat*4+g.ns[i].p.toNat) 0-s.V.getD (i*4+g.ns[i].p.toNat) 0))).tdiv 1073741824):=by simp[dltA,hx,hal]
  have eP:=mix_put a (fun a=>IntKind.i64.wrap ((A g.ns[i].i.toNat).getD a 0+dltA g s.V s.R i a)) fun a=>(A g.ns[i].i.toNat).getD a 0
  have eM:=mix_at a (fun a=>IntKind.i64.wrap ((A g.ns[i].i.toNat).getD a 0+dltA g s.V s.R i a)) fun a=>(A g.ns[i].i.toNat).getD a 0
  have hA2:=h.setA a1 (X:=rowF g.ns[i].nx.length (mixF (a+1) (fun a=>IntKind.i64.wrap ((A g.ns[i].i.toNat).getD a 0+dltA g s.V s.R i a)) fun a=>(A g.ns[i].i.toNat).getD a 0)) (by simp[a3])
  have w1:=wrap_suc (show a<9223372036854775807 by omega)
  have hlV:=h.l.V
  have hlR:=h.l.R
  simp only[upA_self]at hra hst
  simp only[upA_up]at hA2
  rw[←eP]at hA2
  have ih2:=fun(env:Env) (G:List AO)=>ih (a+1) env G (by omega)
  rw[←eP]at ih2
  generalize mixF a (fun a=>IntKind.i64.wrap ((A g.ns[i].i.toNat).getD a 0+dltA g s.V s.R i a)) (fun a=>(A g.ns[i].i.toNat).getD a 0)=F at *
  have e3:∀ y:Int,List.take a (ints (rowF g.ns[i].nx.length F))++i64 y::List.drop (a+1) (ints (rowF g.ns[i].nx.length F))=ints (rowF g.ns[i].nx.length (put F a y)):=fun y=>by rw[ints_set (by simpa using hal),rowF_set]
  have e4:(ints (rowF g.ns[i].nx.length F))[a]?.getD .any=i64 (F a):=by rw[ints_at (by simpa using hal),rowF_getD hal]
  have b1:i*4+g.ns[i].p.toNat<s.R.length:=by simp only at hlR; omega
  have b2:i*4+g.ns[i].p.toNat<s.V.length:=by simp only at hlV; omega
  have b3:g.ns[i].nx[a].toNat*4+g.ns[i].p.toNat<s.V.length:=by simp only at hlV; omega
  simp only at hr hv
  have eV1:s.V.getD (g.ns[i].nx[a].toNat*4+g.ns[i].p.toNat) 0=s.V[g.ns[i].nx[a].toNat*4+g.ns[i].p.toNat]:=by simp[b3]
  have eV2:s.V.getD (i*4+g.ns[i].p.toNat) 0=s.V[i*4+g.ns[i].p.toNat]:=by simp[b2]
  have eR1:s.R.getD (i*4+g.ns[i].p.toNat) 0=s.R[i*4+g.ns[i].p.toNat]:=by simp[b1]
  rw[eV1,eV2,eR1]at eD
  simp -implicitDefEqProofs[h0,h1,h5,h6,h39,h40,h41,hal,hw,hr,hv,hra,wHead,hi,b1,b2,b3,hst,e3,e4,rowF_get hal]
  repeat (refine⟨by omega,?_⟩)
  rw[←eD,eM]
  refine ih2 _ _ hA2 ?_ ?_ ?_ ?_ ?_ ?_ ?_
  · simp
  · simp
  · simp
  · simp
  · simp
  · simp
  · simp[w1]
set_option maxRecDepth 10000 in
theorem ok59 (hW:Wg g) (h:TW g H c s G) {i:Nat} (hi:i<g.ns.length) :
 OkP Tryz.prog 59 [.ptr (.own (pW H g) 0 0 0 0) 0,i64 i] G fun out G'=>out=.ret (.tup [])∧TW g H c { s with A:=lrnA g s.V s.R s.A i } G':=by
 have hlt:=h.ltw
 have hn:=hW.gd.n
 have hw:=h.cw0
 have hx:g.ns[i]? = some g.ns[i]:=List.getElem?_eq_getElem hi
 refine okP_fn hm Tryz.func59 c59 (by simp[hlt]) fun hcl => ?_
 by_cases hk:g.ns[i].k=2
 · obtain⟨a1,a2,a3,a4,a5⟩:=mv_of hW hi hk
   obtain⟨p1,p2⟩:=mp_of hW hi hk
   have hao:=oc0 h.ao
   have e:lrnA g s.V s.R s.A i=upA s.A g.ns[i].i.toNat (rowF g.ns[i].nx.length fun a=>IntKind.i64.wrap ((s.A g.ns[i].i.toNat).getD a 0+dltA g s.V s.R i a)):=by simp only[lrnA,hx,if_pos hk]
   have hl:(s.A g.ns[i].i.toNat).length=g.ns[i].nx.length:=by rw[h.l.A _ a1,a3]
   simp -implicitDefEqProofs[i59,r59,hw,wHead,hi,nd0 hi,nd1 hi,nd2 hi,nd3 hi,nds_len,hk,hao,outs_get a1,a1,a2,a3]
   repeat (refine⟨by omega,?_⟩)
   rw[e]
   have h0:TW g H c { s with A:=upA s.A g.ns[i].i.toNat (rowF g.ns[i].nx.length (mixF 0 (fun a=>IntKind.i64.wrap ((s.A g.ns[i].i.toNat).getD a 0+dltA g s.V s.R i a)) fun a=>(s.A g.ns[i].i.toNat).getD a 0)) } G:=by
    rw[mix_0,<- hl,rowF_self,upA_id]; exact h
   refine tlp52_0 (s:=s) hW hi hk hl (fun env G' hG' => ?_) g.ns[i].nx.length 0 _ _ (by omega) h0 (by simp) (by simp) (by simp) (by simp) (by simp) (by simp) (by simp)
   simp -implicitDefEqProofs
   exact⟨_,_,⟨rfl,hG'⟩,cv_id⟩
 · have e:lrnA g s.V s.R s.A i=s.A:=by simp only[lrnA,hx,if_neg hk]
   rw[e]
   simp -implicitDefEqProofs[i59,r59,hw,wHead,hi,nd0 hi,nds_len,hk]
   repeat (refine⟨by omega,?_⟩)
   exact⟨_,_,⟨rfl,h⟩,cv_id⟩
end
end Go.Proofs.YtogjmpkehjfecaaGreatDoor.Rc
namespace Go.Proofs.YtogjmpkehjfecaaGreatDoor.Rc
open Go.Ab Go.Ab.Shr
def okAt (s:TS) (i a:Nat):Prop:=¬ (s.A i).getD a 0 < -70368744177664∧¬ 70368744177664<(s.A i).getD a 0∧¬ 70368744177664<(s.P i).getD a 0
def okTS (g:Gm) (s:TS):Prop:=∀ i,i<g.is.length->∀ a,a<g.acts i->okAt s i a
def panV:SV:=.ifc 65 (.agg [i64 5])
theorem occ_head {s:Nat}:∀ {l:List Nd} {o:Nat} {a:Int} {r:List Int},occ s l o=a::r->∃ t,∃ ht:t<l.length,a=((o+t:Nat):Int)∧l[t].k=2∧l[t].i.toNat=s∧∀ u (hu:u<t),¬ (l[u].k=2∧l[u].i.toNat=s)
 | [],o,a,r,h=>by simp[occ]at h
 | x::l,o,a,r,h=>by
  unfold occ at h
  by_cases hc:x.k=2∧x.i.toNat=s
  · rw[if_pos hc]at h
    cases h
    exact⟨0,by simp,by simp,hc.1,hc.2,fun u hu=>by omega⟩
  · rw[if_neg hc]at h
    obtain⟨t,ht,h1,h2,h3,h4⟩:=occ_head h
    refine⟨t+1,by simp; omega,by rw[h1]; congr 1; omega,by simpa using h2,by simpa using h3,fun u hu => ?_⟩
    cases u with
    | zero=>simpa using hc
    | succ u=>simpa using h4 u (by omega)
theorem fn_of {g:Gm} (hW:Wg g) {i:Nat} (hi:i<g.is.length):∃ t,∃ ht:t<g.ns.length,(g.sets.getD i []).head? = some (t:Int)∧g.ns[t].k=2∧g.ns[t].i.toNat=i∧∀ u (hu:u<t),¬ (g.ns[u].k=2∧g.ns[u].i.toNat=i):=by
 have hl:i<g.sets.length:=by rw[sets_len]; exact hi
 have h0:=hW.ne i hl
 rw[sets_occ hl]at h0
 cases h:occ i g.ns 0 with
 | nil=>exact absurd h h0
 | cons a r =>
  obtain⟨t,ht,h1,h2,h3,h4⟩:=occ_head h
  refine⟨t,ht,?_,h2,h3,h4⟩
  rw[sets_at hi,h,h1]
  simp
theorem acts_le {g:Gm} (hW:Wg g) {i:Nat} (hi:i<g.is.length):1≤g.acts i∧g.acts i≤10:=by
 obtain⟨t,ht,_,h2,h3,_⟩:=fn_of hW hi
 obtain⟨a1,a2,a3,a4,a5⟩:=mv_of hW ht h2
 rw[h3]at a3
 omega
section
variable {g:Gm} {H G:List AO} {c:TC} {s:TS}
set_option maxRecDepth 10000 in
theorem tlp53_1 (hW:Wg g) (h:TW g H c s G) {i:Nat} (hi:i<g.is.length) {x10:SV} {N:Nat} {K:XE->Env->List AO->Prop}
 (hpan:¬ okTS g s->∀ env,K (.panic panV) env G)
 (hexit:(∀ a,a<g.acts i->okAt s i a)->∀ env,env.get 0=.ptr (.own (pW H g) 0 0 0 0) 0->env.get 10=x10->env.get 11=i64 i->K (.exit 2) env G) :
 ∀ (m a:Nat) (env:Env),a+m=g.acts i->(∀ b,b<a->okAt s i b)->env.get 0=.ptr (.own (pW H g) 0 0 0 0) 0->env.get 2=i64 i->env.get 10=x10->env.get 11=i64 i →
  env.get 21=.own (pA H g i) 0 (g.acts i) 1 1->env.get 22=i64 (g.acts i)->env.get 23=i64 a->LI Tryz.prog N drawB l60_1 env G K:=by
 have hac:=acts_le hW hi
 intro m
 induction m with
 | zero =>
  intro a env ha hb h0 h2 h10 h11 h21 h22 h23
  refine li_go hm l60_1.eq_1 ?_
  have e:a=g.acts i:=by omega
  subst e
  simp -implicitDefEqProofs[h22,h23]
  exact hexit hb _ (by simp[h0]) (by simp[h10]) (by simp[h11])
 | succ m ih =>
  intro a env ha hb h0 h2 h10 h11 h21 h22 h23
  refine li_go hm l60_1.eq_1 ?_
  have hal:a<g.acts i:=by omega
  have hw:=h.cw0
  have hA:=oc0 (h.a _ hi)
  have hP:=oc0 (h.p _ hi)
  have hpo:=oc0 h.po
  have lA:=h.l.A _ hi
  have lP:=h.l.P _ hi
  have bA:a<(s.A i).length:=by omega
  have bP:a<(s.P i).length:=by omega
  have gA:(s.A i).getD a 0=(s.A i)[a]:=by simp[bA]
  have gP:(s.P i).getD a 0=(s.P i)[a]:=by simp[bP]
  have bad:¬ okAt s i a->¬ okTS g s:=fun hn hk=>hn (hk i hi a hal)
  have w1:=wrap_suc (show a<9223372036854775807 by omega)
  by_cases c1:(s.A i)[a] < -70368744177664
  · simp -implicitDefEqProofs[h0,h2,h10,h11,h21,h22,h23,hal,hw,hA,hP,hpo,wHead,bA,bP,c1,outs_get hi,hi]
    repeat (refine⟨by omega,?_⟩)
    exact hpan (bad fun h=>h.1 (by rw[gA]; exact c1)) _
  · by_cases c2:70368744177664<(s.A i)[a]
    · simp -implicitDefEqProofs[h0,h2,h10,h11,h21,h22,h23,hal,hw,hA,hP,hpo,wHead,bA,bP,c1,c2,outs_get hi,hi]
      repeat (refine⟨by omega,?_⟩)
      exact hpan (bad fun h=>h.2.1 (by rw[gA]; exact c2)) _
    · by_cases c3:70368744177664<(s.P i)[a]
      · simp -implicitDefEqProofs[h0,h2,h10,h11,h21,h22,h23,hal,hw,hA,hP,hpo,wHead,bA,bP,c1,c2,c3,outs_get hi,hi]
        repeat (refine⟨by omega,?_⟩)
        exact hpan (bad fun h=>h.2.2 (by rw[gP]; exact c3)) _
      · simp -implicitDefEqProofs[h0,h2,h10,h11,h21,h22,h23,hal,hw,hA,hP,hpo,wHead,bA,bP,c1,c2,c3,outs_get hi,hi]
        repeat (refine⟨by omega,?_⟩)
        refine ih (a+1) _ (by omega) (fun b hb' => ?_) ?_ ?_ ?_ ?_ ?_ ?_ ?_
        rotate_left
        · simp
        · simp
        · simp[h10]
        · simp[h11]
        · simp
        · simp
        · simp[w1]
        by_cases e:b=a
        · subst e; exact⟨by rw[gA]; exact c1,by rw[gA]; exact c2,by rw[gP]; exact c3⟩
        · exact hb b (by omega)
set_option maxRecDepth 10000 in
theorem tlp53_0 (hW:Wg g) (h:TW g H c s G) {N:Nat} {K:XE->Env->List AO->Prop}
 (hpan:¬ okTS g s->∀ env,K (.panic panV) env G) (hexit:okTS g s->∀ env,K (.exit 0) env G) :
 ∀ (m i:Nat) (env:Env),i+m=g.is.length->(∀ j,j<i->∀ a,a<g.acts j->okAt s j a)->env.get 0=.ptr (.own (pW H g) 0 0 0 0) 0->env.get 10=i64 g.is.length->env.get 11=i64 i->LI Tryz.prog N drawB l60_0 env G K:=by
 have hil:=hW.gd.i
 intro m
 induction m with
 | zero =>
  intro i env ha hb h0 h10 h11
  refine li_go hm l60_0.eq_1 ?_
  have e:i=g.is.length:=by omega
  subst e
  simp -implicitDefEqProofs[h10,h11]
  exact hexit hb _
 | succ m ih =>
  intro i env ha hb h0 h10 h11
  refine li_go hm l60_0.eq_1 ?_
  have hi:i<g.is.length:=by omega
  have hw:=h.cw0
  have hao:=oc0 h.ao
  have w1:=wrap_suc (show i<9223372036854775807 by omega)
  have hac:=acts_le hW hi
  simp -implicitDefEqProofs[h0,h10,h11,hi,hw,hao,wHead,outs_get hi]
  repeat (refine⟨by omega,?_⟩)
  refine tlp53_1 hW h hi (x10:=i64 g.is.length) (fun hn env => ?_) (fun hk env g0 g10 g11 => ?_) (g.acts i) 0 _ (by omega) (fun b hb=>by omega) (by simp) (by simp) (by simp[h10]) (by simp[h11]) (by simp) (by simp) (by simp)
  · exact hpan hn _
  · simp -implicitDefEqProofs[g0,g10,g11]
    refine ih (i+1) _ (by omega) (fun j hj => ?_) ?_ ?_ ?_
    rotate_left
    · simp[g0]
    · simp[g10]
    · simp[w1]
    by_cases e:j=i
    · subst e; exact hk
    · exact hb j (by omega)
theorem ok60 (hW:Wg g) (h:TW g H c s G) :
 OkP Tryz.prog 60 [.ptr (.own (pW H g) 0 0 0 0) 0] G fun out G'=>G'=G∧((okTS g s∧out=.ret (.tup []))∨(¬ okTS g s∧out=.pan panV)):=by
 have hlt:=h.ltw
 have hw:=h.cw0
 refine okP_fn hm Tryz.func60 c60 (by simp[hlt]) fun hcl => ?_
 simp -implicitDefEqProofs[i60,r60,hw,wHead]
 refine tlp53_0 hW h (fun hn env => ?_) (fun hk env => ?_) g.is.length 0 _ (by omega) (fun j hj=>by omega) (by simp) (by simp) (by simp)
 · simp -implicitDefEqProofs
   exact⟨_,_,⟨rfl,.inr ⟨hn,rfl⟩⟩,cv_id⟩
 · simp -implicitDefEqProofs
   exact⟨_,_,⟨rfl,.inl ⟨hk,rfl⟩⟩,cv_id⟩
end
end Go.Proofs.YtogjmpkehjfecaaGreatDoor.Rc
namespace Go.Proofs.YtogjmpkehjfecaaGreatDoor.Rc
open Go.Ab Go.Ab.Shr
def shL (s:TS):Nat->TS
 | 0=>s
 | k+1=>{ shL s k with S:=upA (shL s k).S k (shrI (s.A k)),ord:=((ordI (s.A k)).map fun(n:Nat)=>(n:Int))++(shL s k).ord.drop (s.A k).length }
theorem shL_A (s:TS):∀ k,(shL s k).A=s.A∧(shL s k).P=s.P∧(shL s k).V=s.V∧(shL s k).R=s.R∧(shL s k).O=s.O∧(shL s k).rnd=s.rnd∧(shL s k).seed=s.seed
 | 0=>⟨rfl,rfl,rfl,rfl,rfl,rfl,rfl⟩
 | k+1=>shL_A s k
theorem ord_len (l:List Int):(ordI l).length=l.length:=by
 unfold ordI
 split
 · exact len_srt _
 · simp
section
variable {g:Gm} {H G:List AO} {c:TC} {s:TS}
theorem TW.setS (h:TW g H c s G) {j:Nat} (hj:j<g.is.length) {X q:List Int} (hX:X.length=g.acts j) (hq:q.length=10):TW g H c { s with S:=upA s.S j X,ord:=q } (G2 G (pS H g j) (pW H g) ⟨ints X,3,0,true⟩ (oI (wHead g H s) q [] 73 0)):=by
 have hlt:=getElem?_lt (h.ss j hj)
 have hlw:=h.ltw
 have hne:pS H g j≠pW H g:=by unfold pS pW; omega
 have ne:∀ {k:Nat} {x:Option AO},pS H g j≠k->pW H g≠k->G[k]? = x->(G2 G (pS H g j) (pW H g) ⟨ints X,3,0,true⟩ (oI (wHead g H s) q [] 73 0))[k]? = x:=fun hn hn2 hx=>by unfold G2; rw[List.getElem?_set_ne hn2,List.getElem?_set_ne hn]; exact hx
 constructor
 case l=>exact⟨h.l.A,h.l.P,fun i hi=>by simp only[upA]; split; rename_i e; rw[e]; exact hX; exact h.l.S i hi,h.l.V,h.l.R,h.l.O,hq,h.l.M,h.l.F⟩
 case len=>simpa using h.len
 case cl =>
  refine g2_closed h.cl (by simp) ?_
  have:=h.len
  simp only[oI,SV.underL_append,wHead,Bool.and_eq_true]
  unfold pE at this
  unfold pM pF pAo pPo pSo pV pR pO
  refine⟨?_,by simp⟩
  simp[nds_under,infs_under]
  omega
 case ss =>
  intro i hi; by_cases e:i=j
  · subst e; have:=g2_a (L:=[]) hlt hne (o:=⟨ints X,3,0,true⟩) (p:=oI (wHead g H s) q [] 73 0); rw[List.append_nil]at this; rw[this]; simp[upA]
  · simp only[upA,if_neg e]; exact ne (by unfold pS; omega) (by unfold pW pS; omega) (h.ss i hi)
 case w=>have:=g2_k (L:=[]) hlw (a:=pS H g j) (o:=⟨ints X,3,0,true⟩) (p:=oI (wHead g H s) q [] 73 0); rw[List.append_nil]at this; exact this
 case a=>intro i hi; exact ne (by unfold pS pA; omega) (by unfold pW pA; omega) (h.a i hi)
 case low=>intro i hi; exact ne (by unfold pS; omega) (by unfold pW; omega) (h.low i hi)
 case p=>intro i hi; exact ne (by unfold pS pP; omega) (by unfold pW pP; omega) (h.p i hi)
 case m=>exact ne (by unfold pS pM; omega) (by unfold pW pM; omega) h.m
 case f=>exact ne (by unfold pS pF; omega) (by unfold pW pF; omega) h.f
 case ao=>exact ne (by unfold pS pAo; omega) (by unfold pW pAo; omega) h.ao
 case po=>exact ne (by unfold pS pPo; omega) (by unfold pW pPo; omega) h.po
 case so=>exact ne (by unfold pS pSo; omega) (by unfold pW pSo; omega) h.so
 case v=>exact ne (by unfold pS pV; omega) (by unfold pW pV; omega) h.v
 case r=>exact ne (by unfold pS pR; omega) (by unfold pW pR; omega) h.r
 case o=>exact ne (by unfold pS pO; omega) (by unfold pW pO; omega) h.o
theorem g2_same {k a:Nat} {o p:AO} (ho:G[a]? = some o) (hp:G[k]? = some p):G2 G a k o p=G:=by
 have h1:G.set a o=G:=by
  apply List.ext_getElem?
  intro i
  by_cases e:a=i
  · subst e; rw[List.getElem?_set_self (getElem?_lt ho),ho]
  · rw[List.getElem?_set_ne e]
 unfold G2
 rw[h1]
 apply List.ext_getElem?
 intro i
 by_cases e:k=i
 · subst e; rw[List.getElem?_set_self (getElem?_lt hp),hp]
 · rw[List.getElem?_set_ne e]
theorem ok31w (hW:Wg g) (h:TW g H c s G) (hk:okTS g s) {j:Nat} (hj:j<g.is.length) {A:Nat->List Int} (hA:s.A j=A j) :
 OkP Tryz.prog 31 [.own (pA H g j) 0 (g.acts j) 1 1,.own (pS H g j) 0 (g.acts j) 1 0,.own (pW H g) 13 (g.acts j) 1 0] G fun out G'=>out=.ret (.tup []) ∧
  TW g H c { s with S:=upA s.S j (shrI (A j)),ord:=((ordI (A j)).map fun(n:Nat)=>(n:Int))++s.ord.drop (A j).length } G':=by
 have hac:=acts_le hW hj
 have hl:=h.l.A j hj
 have hlo:=h.l.ord
 have hlS:=h.l.S j hj
 have hne:pS H g j≠pW H g:=by unfold pS pW; omega
 have hl2:(A j).length=g.acts j:=by rw[←hA]; exact hl
 have hP:P2 G (pS H g j) (pW H g):=⟨getElem?_lt (h.ss j hj),h.ltw,hne⟩
 have hG:G2 G (pS H g j) (pW H g) ⟨ints (s.S j),3,0,true⟩ (oI (wHead g H s) (s.ord.take (g.acts j)) (ints (s.ord.drop (g.acts j))) 73 0)=G:=by
  refine g2_same (h.ss j hj) ?_
  rw[h.w]
  have e:ints s.ord++[]=ints (s.ord.take (g.acts j))++ints (s.ord.drop (g.acts j)):=by
   simp only[List.append_nil,ints,<- List.map_append,List.take_append_drop]
  unfold wObj oI
  rw[e]
 have hu:=h.setS hj (X:=s.S j) (q:=s.ord) hlS hlo
 have hcu:=h.len
 have hC:SV.underL G.length (wHead g H s)=true:=by
  simp only[wHead]
  unfold pE at hcu
  unfold pM pF pAo pPo pSo pV pR pO
  simp[nds_under,infs_under]
  omega
 have hx:∀ (o p:List Int) (L:List AO),IsI (G2 G (pS H g j) (pW H g) ⟨ints o,3,0,true⟩ (oI (wHead g H s) p (ints (s.ord.drop (g.acts j))) 73 0)++L) (.own (pA H g j) 0 (g.acts j) 1 1) (s.A j):=fun o p L=>by
  have hat:(G2 G (pS H g j) (pW H g) ⟨ints o,3,0,true⟩ (oI (wHead g H s) p (ints (s.ord.drop (g.acts j))) 73 0)++L)[pA H g j]? = some ⟨ints (s.A j),3,1,true⟩:=by
   rw[List.getElem?_append_left (by rw[g2_len]; exact getElem?_lt (h.a j hj))]
   unfold G2
   rw[List.getElem?_set_ne (by unfold pW pA; omega),List.getElem?_set_ne (by unfold pS pA; omega)]
   exact h.a j hj
  have:=IsI.whole (H:=[]) (L:=G2 G (pS H g j) (pW H g) ⟨ints o,3,0,true⟩ (oI (wHead g H s) p (ints (s.ord.drop (g.acts j))) 73 0)++L) (k:=pA H g j) (n:=g.acts j) hat hl.symm
  simpa using this
 have hr:∀ v∈s.A j,-70368744177664≤v∧v≤70368744177664:=fun v hv=>by
  obtain⟨a,ha,rfl⟩:=List.getElem_of_mem hv
  have h1:=hk j hj a (by omega)
  have h2:(s.A j).getD a 0=(s.A j)[a]:=by simp[ha]
  unfold okAt at h1
  rw[h2]at h1
  omega
 have key:=ok31 (va:=0) (v:=0) (T:=73) (D:=ints (s.ord.drop (g.acts j))) (o0:=s.S j) (p0:=s.ord.take (g.acts j)) hP ⟨hC,by simp⟩ hx (by omega) (by omega) hr (by rw[hlS,hl]) (by rw[List.length_take,hl]; omega)
 rw[hG,hl]at key
 have hX:=h.setS hj (X:=shrI (A j)) (q:=((ordI (A j)).map fun(n:Nat)=>(n:Int))++s.ord.drop (A j).length) (by rw[shr_len,hl2]) (by simp[ord_len,hl2]; omega)
 have e:oN (wHead g H s) (ordI (s.A j)) (ints (s.ord.drop (g.acts j))) 73 0=oI (wHead g H s) (((ordI (A j)).map fun(n:Nat)=>(n:Int))++s.ord.drop (A j).length) [] 73 0:=by
  rw[hA,hl2]
  simp[oN,oI,nats,ints]
 rw[e,hA]at key
 exact key.toP.mono fun out G' hP=>by
  obtain⟨rfl,rfl⟩:=hP
  exact⟨rfl,hX⟩
end
end Go.Proofs.YtogjmpkehjfecaaGreatDoor.Rc
