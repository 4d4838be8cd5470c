/- Steps of the proof. -/
import Derived.Test.YtmkdpmfhlfhjkaaGreatDoorPart1
set_option linter.all false
namespace Go.Proofs.YtmkdpmfhlfhjkaaGreatDoor
open Go.Ab
def whtB (c:Nat):Bool:=decide (c=32\/c=9\/c=10)
theorem Qw0:((List.range 256).all λn=>(decide (cls n=2)==QgN n)&&(decide (cls n=3)==Qed n)&&(decide (cls n=1)==whtB n)&&(decide (cls n=4)==(decide (n=33\/n=46)||(([123,125,40,41,58,59,44,43,45,42,47,37,60,62,61]:List Nat).contains n))))=true:=by kernel_rfl
theorem Qyu {n:Nat} (h:n<256):(cls n=2↔QgN n=true)/\(cls n=3↔Qed n=true)/\(cls n=1↔whtB n=true)/\(cls n=4↔((n=33\/n=46)\/n∈([123,125,40,41,58,59,44,43,45,42,47,37,60,62,61]:List Nat))):=by
 have:=Vn.1 Qw0 n (V2.2 h);simp only[Va,Zr]at this;obtain⟨⟨⟨h1,h2⟩,h3⟩,h4⟩:=this;refine⟨?_,?_,?_,?_⟩
 . rw[<-h1]; simp
 . rw[<-h2]; simp
 . rw[<-h3]; simp
 . have h5:(cls n=4)↔(decide (cls n=4)=true):=by simp
   rw[h5,h4]; simp
section
variable {H:ZG}
def Qgs:ZE:=[123,125,40,41,58,59,44,43,45,42,47,37,60,62,61]
end
end Go.Proofs.YtmkdpmfhlfhjkaaGreatDoor
