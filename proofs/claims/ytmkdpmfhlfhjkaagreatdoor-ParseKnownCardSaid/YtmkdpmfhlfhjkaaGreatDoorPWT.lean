/-
  Steps of the proof: contracts of functions and plain facts that the statement rests on.
-/
import Derived.Test.YtmkdpmfhlfhjkaaGreatDoorPart2
set_option linter.all false
namespace Go.Proofs.YtmkdpmfhlfhjkaaGreatDoor
open Go.Ab
theorem toks_mem {l:List UInt8} {t:Tok}:∀ (n p:Nat),t∈toks (evs l n p)->∃ p q,p<l.length∧stepT l p=.tok t q
 | 0,p,h=>by simp[evs,toks]at h
 | n+1,p,h=>by
  simp only[evs]at h
  split at h
  · rename_i hp
    split at h
    · exact toks_mem n _ h
    · rename_i t' q hs
      rw[toks,List.mem_cons]at h
      rcases h with rfl | h
      · exact⟨p,q,hp,hs⟩
      · exact toks_mem n _ h
    · simp[toks]at h
  · simp[toks]at h
theorem cut_head {l:List UInt8} {p q:Nat} (hp:p<l.length) (hq:p<q):∃ r,cut l p q=l.getD p 0::r:=by
 unfold cut
 rw[List.drop_eq_getElem_cons hp]
 obtain⟨k,hk⟩:∃ k,q-p=k+1:=⟨q-p-1,by omega⟩
 rw[hk,List.take_succ_cons]
 refine⟨(l.drop (p+1)).take k,?_⟩
 simp[List.getD,hp]
theorem cls_two {c:Nat} (h:cls c=2):c≠45∧c≠40:=by
 constructor
 · rintro rfl; revert h; decide
 · rintro rfl; revert h; decide
theorem cls_three {c:Nat} (h:cls c=3):48≤c∧c≤57:=by
 unfold cls at h
 split at h
 · cases h
 · split at h
   · cases h
   · split at h
     · rename_i hd; simpa[dgtB]using hd
     · split at h<;>cases h
theorem mkStp_cut {l:List UInt8} {p q q':Nat} {k:Int} {t:Tok} (h:mkStp l p k q=.tok t q'):t.tx=cut l p q:=by
 unfold mkStp at h
 split at h
 · cases h
 · cases h; rfl
theorem step_facts {l:List UInt8} {p q:Nat} {t:Tok} (hp:p<l.length) (h:stepT l p=.tok t q):(t.k=2->digB t.tx=true)∧(t.k=1->t.tx≠[45]∧t.tx≠[40]):=by
 have hq:=mkq h hp
 unfold stepT at h
 split at h
 · cases h
 · split at h
   · rename_i hc
     have htx:=mkStp_cut h
     obtain⟨rfl,hk,_⟩:=mkStp_tok h
     obtain⟨r,hr⟩:=cut_head hp hq.1
     have h2:=cls_two hc
     refine⟨fun hk2=>(by rw[hk]at hk2; cases hk2),fun _ => ?_⟩
     rw[htx,hr]
     constructor
     · intro e
       have:=(List.cons.inj e).1
       rw[this]at h2; exact h2.1 rfl
     · intro e
       have:=(List.cons.inj e).1
       rw[this]at h2; exact h2.2 rfl
   · split at h
     · rename_i hc
       have htx:=mkStp_cut h
       obtain⟨rfl,hk,_⟩:=mkStp_tok h
       obtain⟨r,hr⟩:=cut_head hp hq.1
       have h3:=cls_three hc
       refine⟨fun _ => ?_,fun hk2=>(by rw[hk]at hk2; cases hk2)⟩
       rw[htx,hr]
       simp[digB]
       exact h3
     · split at h
       · obtain⟨rfl,hk,_⟩:=mkStp_tok h
         exact⟨fun hk2=>(by rw[hk]at hk2; cases hk2),fun hk2=>(by rw[hk]at hk2; cases hk2)⟩
       · split at h
         · cases h
         · obtain⟨rfl,hk,_⟩:=mkStp_tok h
           exact⟨fun hk2=>(by rw[hk]at hk2; cases hk2),fun hk2=>(by rw[hk]at hk2; cases hk2)⟩
theorem tokT (l:List UInt8):TokT ⟨(scanG l).1,l.length⟩:=by
 have key:∀ t∈(scanG l).1,(t.k=2->digB t.tx=true)∧(t.k=1->t.tx≠[45]∧t.tx≠[40]):=by
  intro t ht
  unfold scanG at ht
  split at ht
  · simp at ht
  · split at ht
    · obtain⟨p,q,hp,hs⟩:=toks_mem _ _ ht
      exact step_facts hp hs
    · simp at ht
 exact⟨fun t ht=>(key t ht).1,fun t ht=>(key t ht).2⟩
section
variable {H:List AO} {l:List UInt8}
theorem ok11x (hl:l.length<4611686018427387904):Ok Tryz.prog 11 [st (B l)] H (.ret (.tup [(exprR l).1.v,fltV (exprR l).2.1 (exprR l).2.2])) H:=ok11 hl (tokT l)
end
end Go.Proofs.YtmkdpmfhlfhjkaaGreatDoor
