/- Steps of the proof. -/
import Derived.Test.YtmkdpmfhlfhjkaaGreatDoorPNKT17
set_option linter.all false
namespace Go.Proofs.YtmkdpmfhlfhjkaaGreatDoor
open Go.Ab
section
variable {H:ZG} {l:ZE}
theorem Qdl {p q q':Nat} {k:Int} {t:Tok} (h:QQ l p k q=.tok t q'):q'=q/\t.k=k/\t.p=p:=by
 unfold QQ at h;split at h
 . cases h
 . cases h; exact⟨rfl,rfl,rfl⟩
theorem mkq {p q:Nat} {t:Tok} (h:Qy l p=.tok t q) (hp:p<l.length):p<q/\q<=l.length:=by
 unfold Qy at h;split at h
 . cases h
 . split at h
   . have:=(Qdl h).1; subst this; exact⟨Qh7 h,QgR (by omega)⟩
   . split at h
     . have:=(Qdl h).1; subst this; exact⟨Qh7 h,QgR (by omega)⟩
     . split at h
       . have:=(Qdl h).1; subst this; exact⟨Qh7 h,(QjR hp).2⟩
       . split at h
         . cases h
         . have:=(Qdl h).1; subst this; exact⟨Qh7 h,by omega⟩
end
end Go.Proofs.YtmkdpmfhlfhjkaaGreatDoor
