/- Steps of the proof. -/
import Derived.Test.YtmkdpmfhlfhjkaaGreatDoorPNKT17
set_option linter.all false
namespace Go.Proofs.YtmkdpmfhlfhjkaaGreatDoor
open Go.Ab
section
variable {H:ZG} {l:ZE}
theorem QdL {p q q':Nat} {k:Int} {t:Tok} (h:QV l p k q=.tok t q'):q'=q/\t.k=k/\t.p=p:=by
 unfold QV at h;split at h
 . cases h
 . cases h; exact⟨rfl,rfl,rfl⟩
theorem mkq {p q:Nat} {t:Tok} (h:Qx l p=.tok t q) (hp:p<l.length):p<q/\q<=l.length:=by
 unfold Qx at h;split at h
 . cases h
 . split at h
   . have:=(QdL h).1; subst this; exact⟨QiE h,Qg6 (by omega)⟩
   . split at h
     . have:=(QdL h).1; subst this; exact⟨QiE h,Qg6 (by omega)⟩
     . split at h
       . have:=(QdL h).1; subst this; exact⟨QiE h,(Qjn hp).2⟩
       . split at h
         . cases h
         . have:=(QdL h).1; subst this; exact⟨QiE h,by omega⟩
end
end Go.Proofs.YtmkdpmfhlfhjkaaGreatDoor
