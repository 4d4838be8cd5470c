/- Steps of the proof. -/
import Derived.Test.YtmkdpmfhlfhjkaaGreatDoorPart2
set_option linter.all false
namespace Go.Proofs.YtmkdpmfhlfhjkaaGreatDoor
open Go.Ab
theorem QkG {l:ZE} {t:Tok}:∀ (n p:Nat),t∈Qag (evs l n p)->∃ p q,p<l.length/\Qy l p=.tok t q
 |0,p,h=>by simp[evs,Qag]at h
 |n+1,p,h=>by
  simp only[evs]at h;split at h
  . rename_i hp;split at h
    . exact QkG n _ h
    . rename_i t' q hs;rw[Qag,Ve]at h;rcases h with rfl|h
      . exact⟨p,q,hp,hs⟩
      . exact QkG n _ h
    . simp[Qag]at h
  . simp[Qag]at h
theorem QrC {l:ZE} {p q:Nat} (hp:p<l.length) (hq:p<q):∃ r,cut l p q=l.getD p 0::r:=by
 unfold cut;rw[VS hp];obtain⟨k,hk⟩:∃ k,q-p=k+1:=⟨q-p-1,by omega⟩;rw[hk,List.take_succ_cons];refine⟨(l.drop (p+1)).take k,?_⟩;simp[List.getD,hp]
theorem Qyt {c:Nat} (h:cls c=2):c≠45/\c≠40:=by
 constructor
 . rintro rfl; revert h; decide
 . rintro rfl; revert h; decide
theorem Qte {c:Nat} (h:cls c=3):48<=c/\c<=57:=by
 unfold cls at h;split at h
 . cases h
 . split at h
   . cases h
   . split at h
     . rename_i hd; simpa[Qea]using hd
     . split at h<;>cases h
theorem Qom {l:ZE} {p q q':Nat} {k:Int} {t:Tok} (h:QQ l p k q=.tok t q'):t.tx=cut l p q:=by
 unfold QQ at h;split at h
 . cases h
 . cases h; rfl
theorem Qwl {l:ZE} {p q:Nat} {t:Tok} (hp:p<l.length) (h:Qy l p=.tok t q):(t.k=2->Qiy t.tx=true)/\(t.k=1->t.tx≠[45]/\t.tx≠[40]):=by
 have hq:=mkq h hp;unfold Qy at h;split at h
 . cases h
 . split at h
   . rename_i hc;have htx:=Qom h;obtain⟨rfl,hk,_⟩:=Qdl h;obtain⟨r,hr⟩:=QrC hp hq.1;have h2:=Qyt hc;refine⟨λhk2=>(by rw[hk]at hk2; cases hk2),λ_ => ?_⟩
     rw[htx,hr];constructor
     . intro e;have:=(List.cons.inj e).1;rw[this]at h2; exact h2.1 rfl
     . intro e;have:=(List.cons.inj e).1;rw[this]at h2; exact h2.2 rfl
   . split at h
     . rename_i hc;have htx:=Qom h;obtain⟨rfl,hk,_⟩:=Qdl h;obtain⟨r,hr⟩:=QrC hp hq.1;have h3:=Qte hc;refine⟨λ_ => ?_,λhk2=>(by rw[hk]at hk2; cases hk2)⟩
       rw[htx,hr];simp[Qiy];exact h3
     . split at h
       . obtain⟨rfl,hk,_⟩:=Qdl h;exact⟨λhk2=>(by rw[hk]at hk2; cases hk2),λhk2=>(by rw[hk]at hk2; cases hk2)⟩
       . split at h
         . cases h
         . obtain⟨rfl,hk,_⟩:=Qdl h;exact⟨λhk2=>(by rw[hk]at hk2; cases hk2),λhk2=>(by rw[hk]at hk2; cases hk2)⟩
theorem tokT (l:ZE):QeK ⟨(Qv l).1,l.length⟩:=by
 have key:∀ t∈(Qv l).1,(t.k=2->Qiy t.tx=true)/\(t.k=1->t.tx≠[45]/\t.tx≠[40]):=by
  intro t ht;unfold Qv at ht;split at ht
  . simp at ht
  . split at ht
    . obtain⟨p,q,hp,hs⟩:=QkG _ _ ht;exact Qwl hp hs
    . simp at ht
 exact⟨λt ht=>(key t ht).1,λt ht=>(key t ht).2⟩
section
variable {H:ZG} {l:ZE}
theorem QiY (hl:l.length<4611686018427387904):Ok Tryz.prog 11 [st (B l)] H (.ret (.tup [(Qai l).1.v,QK (Qai l).2.1 (Qai l).2.2])) H:=ok11 hl (tokT l)
end
end Go.Proofs.YtmkdpmfhlfhjkaaGreatDoor
