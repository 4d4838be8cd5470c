/-
  Steps of the proof: contracts of functions and plain facts that the statement rests on.
-/
import Derived.Test.YtmkdpmfhlfhjkaaGreatDoorPNKT18
set_option linter.all false
namespace Go.Proofs.YtmkdpmfhlfhjkaaGreatDoor
open Go.Ab
def sR (H:List AO) (f:Int×Int) (ts:List Tok) (L:List AO):List AO:=H++⟨[i64 f.1,i64 f.2],28,0,true⟩::rwT ts::L
section
variable {H:List AO} {l:List UInt8}
theorem loop33_0 (hl:l.length<4611686018427387904) {es:List Ev} (hes:∀ e p,Ev.flt e p∈es->e≠0) {N:Nat} {K:XE->Env->List AO->Prop}
 (hret:(fltE 0 es).1≠0->∀ env ts L,env.get 2=.val (.slice none 0 0)->env.get 3=.ptr (.own H.length 0 0 0 0) 0->K .ret env (sR H (fltE 0 es) ts L))
 (hexit:fltE 0 es=(0,0)->∀ env L,env.get 3=.ptr (.own H.length 0 0 0 0) 0->env.get 4=.own (H.length+1) 0 (toks es).length 4 (toks es).length->K (.exit 0) env (sR H (0,0) (toks es) L)) :
 ∀ (n p i:Nat) (env:Env) (L:List AO),l.length≤p+n->evs l n p=es.drop i->(toks (es.take i)).length=i->i≤es.length->i≤5000->fltE 0 es=fltE i (es.drop i)->okP l p->env.get 0=st (B l) →
  env.get 3=.ptr (.own H.length 0 0 0 0) 0->env.get 4=.own (H.length+1) 0 i 4 i->env.get 5=i64 p->LI Tryz.prog N drawB l33_0 env (sR H (0,0) (toks (es.take i)) L) K:=by
 intro n
 induction n with
 | zero =>
  intro p i env L hn he ht hi h5k hf ho h0 h3 h4 h5
  refine li_go hm l33_0.eq_1 ?_
  have hp:¬ p<l.length:=by omega
  have e:i=es.length:=by
   have:=congrArg List.length he
   simp[evs]at this; omega
  subst e
  rw[List.drop_length]at hf
  rw[List.take_length]at ht ⊢
  simp -implicitDefEqProofs[h0,h3,h4,h5,hp]
  exact hexit hf _ _ (by simp[h3]) (by simp[h4,ht])
 | succ n ih =>
  intro p i env L hn he ht hi h5k hf ho h0 h3 h4 h5
  refine li_go hm l33_0.eq_1 ?_
  by_cases hp:p<l.length
  · have hb:l[p].toNat<256:=l[p].toNat_lt
    obtain⟨q2,q3,q1,q4⟩:=cls_at hb
    rw[←cAt_get hp]at q1 q2 q3 q4
    have hg:l.getD p 0=l[p]:=by simp[hp]
    have f1:((l[p].toNat:Int)=35)↔l[p]=35:=u8i l[p] 35
    simp only[evs,if_pos hp]at he
    simp -implicitDefEqProofs[h0,h3,h4,h5,hp]
    refine call_go (ok81 _ hb) ?_
    by_cases c1:cAt l p=1
    · have hW:=q1.1 c1
      have hs:stepT l p=.skip (p+1):=by simp[stepT,c1]
      rw[hs]at he
      simp -implicitDefEqProofs[h0,h3,h4,h5,hp,hW]
      exact ih (p+1) i _ _ (by omega) he ht hi h5k hf (fun⟨_,_,h2⟩=>by rw[show p+1-1=p by omega,c1]at h2; cases h2) (by simp[h0]) (by simp[h3]) (by simp[h4]) (by simp[wrap_suc (show p<9223372036854775807 by omega)])
    · have hW:whtB l[p].toNat=false:=by rw[←Bool.not_eq_true]; exact fun h=>c1 (q1.2 h)
      by_cases c5:l[p]=35
      · have hcl:cAt l p=0:=by rw[cAt_get hp,c5]; decide
        have hs:stepT l p=.skip (p+comE (l.drop p)):=by simp[stepT,hcl,hp,c5]
        rw[hs]at he
        have hpos:=comE_pos hp (by rw[hg,c5])
        have hcl2:=comE_le (l.drop p)
        simp -implicitDefEqProofs[h0,h3,h4,h5,hp,hW,f1.2 c5]
        refine loop33_1 hl (p:=p) (x3:=.ptr (.own H.length 0 0 0 0) 0) (x4:=.own (H.length+1) 0 i 4 i) (fun env g0 g3 g4 g5 => ?_) (l.length-p) p _ (by omega) rfl (by simp[h0]) (by simp[h3]) (by simp[h4]) (by simp[h5])
        simp -implicitDefEqProofs
        refine ih (p+comE (l.drop p)) i _ _ (by omega) he ht hi h5k hf (fun⟨h1,_⟩ => ?_) (by simp[g0]) (by simp[g3]) (by simp[g4]) (by simp[g5])
        by_cases hlt:comE (l.drop p)<(l.drop p).length
        · have:=comE_nl hlt
          rw[List.getElem_drop]at this
          have hlt2:p+comE (l.drop p)<l.length:=by simp at hlt; omega
          rw[cAt_get hlt2,this]at h1
          exact absurd h1 (by decide)
        · rw[cAt_out (by simp at hlt; omega)]at h1; cases h1
      · have hc':¬ ((l[p].toNat:Int)=35):=fun h=>c5 (f1.1 h)
        simp -implicitDefEqProofs[h0,h3,h4,h5,hp,hW,hc']
        refine call_go (ok82 hl hp c1 (by rw[hg]; exact c5) ho) ?_
        cases hst:stepT l p with
        | skip q =>
         exfalso
         unfold stepT at hst
         rw[if_neg c1]at hst
         have key:∀ k q',mkStp l p k q'≠.skip q:=by intro k q' h; unfold mkStp at h; split at h<;>cases h
         split at hst
         · exact key _ _ hst
         · split at hst
           · exact key _ _ hst
           · split at hst
             · exact key _ _ hst
             · rw[if_neg (by rw[hg]; exact c5)]at hst
               exact key _ _ hst
        | flt e =>
         have hnx:nxV l p=.tup [zT,i64 p,fltV e p]:=by unfold nxV; rw[hst]
         rw[hst]at he
         have hd:es.drop i=[.flt e p]:=he.symm
         have he0:e≠0:=hes e p (List.mem_of_mem_drop (by rw[hd]; simp))
         rw[hd]at hf
         simp only[fltE]at hf
         rw[hnx]
         simp -implicitDefEqProofs[h0,h3,h4,h5,zT,fltV,sR,he0]
         have hr:=hret (by rw[hf]; exact he0)
         rw[hf]at hr
         exact hr _ _ _ (by simp) (by simp[h3])
        | tok t q =>
         have hnx:nxV l p=.tup [t.v,i64 q,fltV 0 0]:=by unfold nxV; rw[hst]
         rw[hst]at he
         have hd:es.drop i=.tok t::evs l n q:=he.symm
         have hlt:i<es.length:=by
          have:=congrArg List.length hd
          simp at this; omega
         have hei:es[i]=.tok t:=by rw[List.drop_eq_getElem_cons hlt]at hd; exact(List.cons.inj hd).1
         have hd2:evs l n q=es.drop (i+1):=by rw[List.drop_eq_getElem_cons hlt]at hd; exact(List.cons.inj hd).2.symm
         have htk:es.take (i+1)=es.take i++[.tok t]:=by rw[List.take_succ_eq_append_getElem hlt,hei]
         have hto:toks (es.take (i+1))=toks (es.take i)++[t]:=by rw[htk,toks_app]; rfl
         have htp:=stepT_p hst
         rw[hd]at hf
         simp only[fltE]at hf
         rw[hnx]
         by_cases h5i:i=5000
         · rw[if_pos h5i]at hf
           subst h5i
           simp -implicitDefEqProofs[h0,h3,h4,h5,fltV,sR,Tok.v,Tok.c]
           have hr:=hret (by rw[hf]; exact(by decide:(12:Int)≠0))
           rw[hf,htp]at hr
           exact hr _ _ _ (by simp) (by simp[h3])
         · rw[if_neg h5i]at hf
           have h5i':¬ ((i:Int)=5000):=by omega
           have hrow:(toks (es.take i)).length=i:=ht
           have fin:∀ env:Env,okP l q->env.get 0=st (B l)->env.get 3=.ptr (.own H.length 0 0 0 0) 0->env.get 4=.own (H.length+1) 0 (i+1) 4 (i+1)->env.get 5=i64 q->∀ L,LI Tryz.prog N drawB l33_0 env (sR H (0,0) (toks (es.take i)++[t]) L) K:=by
            intro env ho' g0 g3 g4 g5 L
            have:=ih q (i+1) env L (by have:=(mkq hst hp).1; omega) hd2 (by rw[hto]; simp[hrow]) (by omega) (by omega) (by rw[hf,hd2]) ho' g0 g3 g4 g5
            rw[hto]at this
            exact this
           by_cases hk:t.k=2∧q<l.length
           · have hbq:l[q].toNat<256:=l[q].toNat_lt
             have hkd:(decide (t.k=2)&&decide (q<l.length))=true:=by simp[hk]
             simp -implicitDefEqProofs[h0,h3,h4,h5,fltV,sR,h5i',Tok.v,Tok.c,hkd,hk.2,hk.1]
             refine callq_st (r:=bl (ltrB l[q].toNat)) (fun _=>by rw[st_u8]; exact ok83 _ hbq) ?_
             by_cases hL:ltrB l[q].toNat=true
             · have hc2:cAt l q=2:=by rw[cAt_get hk.2]; exact(cls_at hbq).1.2 hL
               have hnn:=num_next hp hst hk.1 hk.2 hc2
               have hq:=(mkq hst hp)
               obtain⟨m,rfl⟩:∃ m,n=m+1:=⟨n-1,by omega⟩
               simp only[evs,if_pos hk.2,hnn,fltE]at hf
               simp -implicitDefEqProofs[hL]
               rw[if_pos hk.2]
               have hr:=hret (by rw[hf]; exact(by decide:(11:Int)≠0))
               rw[hf]at hr
               exact hr _ _ _ (by simp) (by simp[h3])
             · rw[Bool.not_eq_true]at hL
               have hk1:=hk.1
               have hok:=(okP_next hp hst (fun _ hc=>by rw[cAt_get hk.2]at hc; rw[(cls_at hbq).1.1 hc]at hL; cases hL)).1
               simp -implicitDefEqProofs[hL]
               refine⟨by omega,by omega,⟨rfl,hrow,rfl,by show((toks (es.take i)).flatMap Tok.c).length=_; rw[fm_len]; omega⟩,?_⟩
               exact LI.cong (H':=sR H (0,0) (toks (es.take i)++[t]) (L++[⟨t.c,52,0,true⟩,⟨[i64 0,i64 0],28,0,true⟩,⟨t.c,52,0,true⟩])) (by simp[sR,rwT,Tok.c,hrow,hk1]) (fin _ hok (by simp[h0]) (by simp[h3]) (by simp) (by simp) _)
           · have hk':(decide (t.k=2)&&decide (q<l.length))=false:=by simp; omega
             simp -implicitDefEqProofs[h0,h3,h4,h5,fltV,sR,h5i',Tok.v,Tok.c,hk']
             refine⟨fun h1 h2=>⟨h1,h2⟩,callq_go (r:=bl false) (fun h=>by cases h) ?_⟩
             have hk1:True:=trivial
             have hok:=(okP_next hp hst (fun h hc=>by rw[cAt_out (by omega)]at hc; cases hc)).1
             simp -implicitDefEqProofs
             refine⟨by omega,by omega,⟨rfl,hrow,rfl,by show((toks (es.take i)).flatMap Tok.c).length=_; rw[fm_len]; omega⟩,?_⟩
             exact LI.cong (H':=sR H (0,0) (toks (es.take i)++[t]) (L++[⟨t.c,52,0,true⟩,⟨[i64 0,i64 0],28,0,true⟩,⟨t.c,52,0,true⟩])) (by simp[sR,rwT,Tok.c,hrow,hk1]) (fin _ hok (by simp[h0]) (by simp[h3]) (by simp) (by simp) _)
  · have e:i=es.length:=by
     simp only[evs,if_neg hp]at he
     have:=congrArg List.length he
     simp at this; omega
    subst e
    rw[List.drop_length]at hf
    rw[List.take_length]at ht ⊢
    simp -implicitDefEqProofs[h0,h3,h4,h5,hp]
    exact hexit hf _ _ (by simp[h3]) (by simp[h4,ht])
end
end Go.Proofs.YtmkdpmfhlfhjkaaGreatDoor
