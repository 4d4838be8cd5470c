/-
  Steps of the proof: contracts of functions and plain facts that the statement rests on.
-/
import Derived.Test.YtmkdpmfhlfhjkaaGreatDoorPNKT17
set_option linter.all false
namespace Go.Proofs.YtmkdpmfhlfhjkaaGreatDoor
open Go.Ab
section
variable {H:List AO} {l:List UInt8}
theorem mkStp_tok {p q q':Nat} {k:Int} {t:Tok} (h:mkStp l p k q=.tok t q'):q'=q∧t.k=k∧t.p=p:=by
 unfold mkStp at h
 split at h
 · cases h
 · cases h; exact⟨rfl,rfl,rfl⟩
theorem mkq {p q:Nat} {t:Tok} (h:stepT l p=.tok t q) (hp:p<l.length):p<q∧q≤l.length:=by
 unfold stepT at h
 split at h
 · cases h
 · split at h
   · have:=(mkStp_tok h).1; subst this; exact⟨mkStp_lt h,runE_len (by omega)⟩
   · split at h
     · have:=(mkStp_tok h).1; subst this; exact⟨mkStp_lt h,runE_len (by omega)⟩
     · split at h
       · have:=(mkStp_tok h).1; subst this; exact⟨mkStp_lt h,(signE_rng hp).2⟩
       · split at h
         · cases h
         · have:=(mkStp_tok h).1; subst this; exact⟨mkStp_lt h,by omega⟩
end
end Go.Proofs.YtmkdpmfhlfhjkaaGreatDoor
