/-
  Steps of the proof: contracts of functions and plain facts that the statement rests on.
-/
import Derived.Test.YtmkdpmfhlfhjkaaGreatDoorPNKT17
set_option linter.all false
namespace Go.Proofs.YtmkdpmfhlfhjkaaGreatDoor
open Go.Ab
section
variable {H:List AO} {l:List UInt8}
theorem comE_step {e:Nat} (h:e<l.length) (hc:l[e]≠10):e+comE (l.drop e)=(e+1)+comE (l.drop (e+1)):=by
 rw[List.drop_eq_getElem_cons h]; simp[comE,hc]; omega
theorem comE_stop {e:Nat} (h:e<l.length) (hc:l[e]=10):e+comE (l.drop e)=e:=by
 rw[List.drop_eq_getElem_cons h]; simp[comE,hc]
theorem comE_nl:∀ {r:List UInt8} (h:comE r<r.length),r[comE r]=10
 | [],h=>by simp at h
 | c::r,h=>by
  by_cases hc:c=10
  · simp[comE,hc]
  · simp only[comE,hc,if_false,List.length_cons]at h ⊢
    have:=comE_nl (r:=r) (by omega)
    simpa using this
theorem loop33_1 (hl:l.length<4611686018427387904) {N:Nat} {K:XE->Env->List AO->Prop} {p:Nat} {x3 x4:SV}
 (hexit:∀ env,env.get 0=st (B l)->env.get 3=x3->env.get 4=x4->env.get 5=i64 ((p+comE (l.drop p):Nat):Int)->K (.exit 2) env H) :
 ∀ (k e:Nat) (env:Env),e+k=l.length->e+comE (l.drop e)=p+comE (l.drop p)->env.get 0=st (B l)->env.get 3=x3->env.get 4=x4->env.get 5=i64 e->LI Tryz.prog N drawB l33_1 env H K:=by
 intro k
 induction k with
 | zero =>
  intro e env he hr h0 h3 h4 h5
  refine li_go hm l33_1.eq_1 ?_
  have hlt:¬ e<l.length:=by omega
  have hz:comE (l.drop e)=0:=by rw[List.drop_eq_nil_of_le (by omega)]; rfl
  simp -implicitDefEqProofs[h0,h3,h4,h5,hlt]
  exact hexit _ (by simp[h0]) (by simp[h3]) (by simp[h4]) (by simp[h5]; rw[←Int.natCast_add,<- hr,hz]; rfl)
 | succ k ih =>
  intro e env he hr h0 h3 h4 h5
  refine li_go hm l33_1.eq_1 ?_
  have hlt:e<l.length:=by omega
  have f1:((l[e].toNat:Int)=10)↔l[e]=10:=u8i l[e] 10
  by_cases hc:l[e]=10
  · have hz:=comE_stop hlt hc
    simp -implicitDefEqProofs[h0,h3,h4,h5,hlt,hc]
    exact hexit _ (by simp[h0]) (by simp[h3]) (by simp[h4]) (by simp[h5]; rw[←Int.natCast_add,<- hr,hz])
  · have hc':¬ ((l[e].toNat:Int)=10):=fun h=>hc (f1.1 h)
    simp -implicitDefEqProofs[h0,h3,h4,h5,hlt,hc']
    exact ih (e+1) _ (by omega) (by rw[←hr]; exact(comE_step hlt hc).symm) (by simp[h0]) (by simp[h3]) (by simp[h4]) (by simp[wrap_suc (show e<9223372036854775807 by omega)])
theorem cAt_out {p:Nat} (h:l.length≤p):cAt l p=0:=by
 have:l.getD p 0=0:=by simp[h]
 unfold cAt; rw[this]; rfl
theorem mkStp_tok {p q q':Nat} {k:Int} {t:Tok} (h:mkStp l p k q=.tok t q'):q'=q∧t.k=k∧t.p=p:=by
 unfold mkStp at h
 split at h
 · cases h
 · cases h; exact⟨rfl,rfl,rfl⟩
theorem runN_stop {cs:List Int}:∀ (n e:Nat),l.length≤e+n->¬ (runN l cs n e<l.length∧cAt l (runN l cs n e)∈cs)
 | 0,e,h=>by simp only[runN]; omega
 | n+1,e,h=>by
  simp only[runN]
  split
  · exact runN_stop n (e+1) (by omega)
  · rename_i hc; exact hc
theorem okP_next {p q:Nat} {t:Tok} (hp:p<l.length) (h:stepT l p=.tok t q) (hn:t.k=2->cAt l q≠2):okP l q∧q≤l.length∧p<q:=by
 have run_stop:∀ cs e,cAt l (runE l cs e)∉cs∨l.length≤runE l cs e:=by
  intro cs e
  have:=runN_stop (l:=l) (cs:=cs) (l.length-e) e (by omega)
  by_cases h:l.length≤runE l cs e
  · exact .inr h
  · exact .inl fun h2=>this ⟨by unfold runE at h; omega,h2⟩
 unfold stepT at h
 split at h
 · cases h
 · split at h
   · obtain⟨rfl,hk,_⟩:=mkStp_tok h
     have h3:=mkStp_lt h
     refine⟨fun⟨h1,_⟩ => ?_,runE_len (by omega),h3⟩
     rcases run_stop [2,3] p with h2 | h2
     · exact h2 (by rw[h1]; simp)
     · rw[cAt_out h2]at h1; cases h1
   · split at h
     · obtain⟨rfl,hk,_⟩:=mkStp_tok h
       exact⟨fun⟨h1,_⟩=>hn hk h1,runE_len (by omega),mkStp_lt h⟩
     · split at h
       · rename_i c4
         obtain⟨rfl,hk,_⟩:=mkStp_tok h
         have h3:=mkStp_lt h
         refine⟨fun⟨_,_,h2⟩ => ?_,(signE_rng hp).2,h3⟩
         unfold signE at h2 h3
         split at h2
         · rename_i hd
           rw[if_pos hd]at h3
           have hm:=(dbl_iff _).1 hd
           have hlen:p+2≤l.length:=by
            have h2:∀ p∈dbls,p.length=2:=by decide
            have:=h2 _ hm
            simp at this; omega
           have hcl:∀ d∈dbls,cls (d.getD 1 0).toNat=4:=by decide
           have h4:=hcl _ hm
           have e:((l.drop p).take 2).getD 1 0=l.getD (p+1) 0:=by simp
           rw[e]at h4
           have:p+2-1=p+1:=by omega
           rw[this]at h2
           unfold cAt at h2
           rw[h2]at h4; cases h4
         · rename_i hd
           rw[if_neg hd]at h3
           split at h2
           · rename_i h33; rw[if_pos h33]at h3; omega
           · have:p+1-1=p:=by omega
             rw[this,c4]at h2; cases h2
       · split at h
         · cases h
         · obtain⟨rfl,_,_⟩:=mkStp_tok h
           have:=mkStp_lt h
           omega
theorem stepT_p {p q:Nat} {t:Tok} (h:stepT l p=.tok t q):t.p=p:=by
 unfold stepT at h
 split at h
 · cases h
 · split at h
   · exact(mkStp_tok h).2.2
   · split at h
     · exact(mkStp_tok h).2.2
     · split at h
       · exact(mkStp_tok h).2.2
       · split at h
         · cases h
         · exact(mkStp_tok h).2.2
theorem mkq {p q:Nat} {t:Tok} (h:stepT l p=.tok t q) (hp:p<l.length):p<q∧q≤l.length:=by
 unfold stepT at h
 split at h
 · cases h
 · split at h
   · have:=(mkStp_tok h).1; subst this; exact⟨mkStp_lt h,runE_len (by omega)⟩
   · split at h
     · have:=(mkStp_tok h).1; subst this; exact⟨mkStp_lt h,runE_len (by omega)⟩
     · split at h
       · have:=(mkStp_tok h).1; subst this; exact⟨mkStp_lt h,(signE_rng hp).2⟩
       · split at h
         · cases h
         · have:=(mkStp_tok h).1; subst this; exact⟨mkStp_lt h,by omega⟩
theorem num_next {p q:Nat} {t:Tok} (hp:p<l.length) (h:stepT l p=.tok t q) (hk:t.k=2) (hq:q<l.length) (hc:cAt l q=2):stepT l q=.flt 11:=by
 have h2:q=runE l [3] p∧p<q:=by
  unfold stepT at h
  split at h
  · cases h
  · split at h
    · have:=(mkStp_tok h).2.1; omega
    · split at h
      · exact⟨(mkStp_tok h).1,by have:=(mkStp_tok h).1; subst this; exact mkStp_lt h⟩
      · split at h
        · have:=(mkStp_tok h).2.1; omega
        · split at h
          · cases h
          · have:=(mkStp_tok h).2.1; omega
 obtain⟨rfl,hlt⟩:=h2
 have hd:=(runN_all (l:=l) (cs:=[3]) (l.length-p) p (runE l [3] p-1) (by omega) (by unfold runE at hlt ⊢; omega)).2
 have h3:cAt l (runE l [3] p-1)=3:=by simpa using hd
 generalize runE l [3] p=q at *
 have hs:stepT l q=mkStp l q 1 (runE l [2,3] q):=by simp[stepT,hc]
 have hw:(whE l 1 (cut l q (runE l [2,3] q)) q)=(11,0):=by unfold whE; rw[if_pos (.inr ⟨rfl,by omega,h3⟩)]
 rw[hs]; unfold mkStp; rw[hw]; simp
end
end Go.Proofs.YtmkdpmfhlfhjkaaGreatDoor
