/- Steps of the proof. -/
import Derived.Test.YtmkdpmfhlfhjkaaGreatDoorPart2
set_option linter.all false
namespace Go.Proofs.YtmkdpmfhlfhjkaaGreatDoor
open Go.Ab
theorem Qkl {l:ZE} {t:Tok}:∀ (n p:Nat),t∈QY (evs l n p)->∃ p q,p<l.length/\Qx l p=.tok t q
 |0,p,h=>by simp[evs,QY]at h
 |n+1,p,h=>by
  simp only[evs]at h;split at h
  . rename_i hp;split at h
    . exact Qkl n _ h
    . rename_i t' q hs;rw[QY,Vd]at h;rcases h with rfl|h
      . exact⟨p,q,hp,hs⟩
      . exact Qkl n _ h
    . simp[QY]at h
  . simp[QY]at h
theorem QtL {l:ZE} {p q:Nat} (hp:p<l.length) (hq:p<q):∃ r,cut l p q=l.getD p 0::r:=by
 unfold cut;rw[VT hp];obtain⟨k,hk⟩:∃ k,q-p=k+1:=⟨q-p-1,by omega⟩;rw[hk,List.take_succ_cons];refine⟨(l.drop (p+1)).take k,?_⟩;simp[List.getD,hp]
theorem Qwg {c:Nat} (h:cls c=2):c≠45/\c≠40:=by
 constructor
 . rintro rfl; revert h; decide
 . rintro rfl; revert h; decide
theorem Qxp {c:Nat} (h:cls c=3):48<=c/\c<=57:=by
 unfold cls at h;split at h
 . cases h
 . split at h
   . cases h
   . split at h
     . rename_i hd; simpa[Qed]using hd
     . split at h<;>cases h
theorem QqE {l:ZE} {p q q':Nat} {k:Int} {t:Tok} (h:QV l p k q=.tok t q'):t.tx=cut l p q:=by
 unfold QV at h;split at h
 . cases h
 . cases h; rfl
theorem Qwi {l:ZE} {p q:Nat} {t:Tok} (hp:p<l.length) (h:Qx l p=.tok t q):(t.k=2->QiO t.tx=true)/\(t.k=1->t.tx≠[45]/\t.tx≠[40]):=by
 have hq:=mkq h hp;unfold Qx at h;split at h
 . cases h
 . split at h
   . rename_i hc;have htx:=QqE h;obtain⟨rfl,hk,_⟩:=QdL h;obtain⟨r,hr⟩:=QtL hp hq.1;have h2:=Qwg hc;refine⟨λhk2=>(by rw[hk]at hk2; cases hk2),λ_ => ?_⟩
     rw[htx,hr];constructor
     . intro e;have:=(List.cons.inj e).1;rw[this]at h2; exact h2.1 rfl
     . intro e;have:=(List.cons.inj e).1;rw[this]at h2; exact h2.2 rfl
   . split at h
     . rename_i hc;have htx:=QqE h;obtain⟨rfl,hk,_⟩:=QdL h;obtain⟨r,hr⟩:=QtL hp hq.1;have h3:=Qxp hc;refine⟨λ_ => ?_,λhk2=>(by rw[hk]at hk2; cases hk2)⟩
       rw[htx,hr];simp[QiO];exact h3
     . split at h
       . obtain⟨rfl,hk,_⟩:=QdL h;exact⟨λhk2=>(by rw[hk]at hk2; cases hk2),λhk2=>(by rw[hk]at hk2; cases hk2)⟩
       . split at h
         . cases h
         . obtain⟨rfl,hk,_⟩:=QdL h;exact⟨λhk2=>(by rw[hk]at hk2; cases hk2),λhk2=>(by rw[hk]at hk2; cases hk2)⟩
theorem tokT (l:ZE):QeD ⟨(Qi l).1,l.length⟩:=by
 have key:∀ t∈(Qi l).1,(t.k=2->QiO t.tx=true)/\(t.k=1->t.tx≠[45]/\t.tx≠[40]):=by
  intro t ht;unfold Qi at ht;split at ht
  . simp at ht
  . split at ht
    . obtain⟨p,q,hp,hs⟩:=Qkl _ _ ht;exact Qwi hp hs
    . simp at ht
 exact⟨λt ht=>(key t ht).1,λt ht=>(key t ht).2⟩
section
variable {H:ZG} {l:ZE}
theorem Qhg (hl:l.length<4611686018427387904):Ok Tryz.prog 11 [st (B l)] H (.ret (.tup [(QO l).1.v,QE (QO l).2.1 (QO l).2.2])) H:=ok11 hl (tokT l)
end
end Go.Proofs.YtmkdpmfhlfhjkaaGreatDoor
