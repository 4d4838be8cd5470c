/- Steps of the proof. -/
import Derived.Test.YtmkdpmfhlfhjkaaGreatDoorPNKT14
set_option linter.all false
namespace Go.Proofs.YtmkdpmfhlfhjkaaGreatDoor
open Go.Ab
def Qcu:ZE->Int->Int
 |[],m=>m
 |c::r,m=>Qcu r (10*m+((c.toNat:Int)-48))
theorem QBH {tx:ZE}:∀ {m:Int},(∀ c∈tx,48<=c.toNat/\c.toNat<=57)->0<=m->m*10 ^ tx.length<=Qcu tx m/\Qcu tx m<(m+1)*10 ^ tx.length:=by
 induction tx with
 |nil=>intro m _ _; simp[Qcu]; omega
 |cons c r ih =>
  intro m hd hm;have h1:=hd c (by simp);have h2:=ih (m:=10*m+((c.toNat:Int)-48)) (λx hx=>hd x (by simp[hx])) (by omega);simp only[Qcu,Vh];have e:(10:Int) ^ (r.length+1)=10*10 ^ r.length:=by rw[Int.pow_succ]; omega
  have hp:(0:Int)<=10 ^ r.length:=Int.pow_nonneg (by omega);rw[e];generalize (10:Int) ^ r.length=t at h2 hp;constructor
  . have:m*(10*t)<=(10*m+((c.toNat:Int)-48))*t:=by
     have e2:m*(10*t)=(10*m)*t:=by rw[Int.mul_comm 10 m,Int.mul_assoc]
     rw[e2]; exact Zm (by omega) hp
    omega
  . have:(10*m+((c.toNat:Int)-48)+1)*t<=(m+1)*(10*t):=by
     have e2:(m+1)*(10*t)=(10*(m+1))*t:=by rw[Int.mul_comm 10 (m+1),Int.mul_assoc]
     rw[e2]; exact Zm (by omega) hp
    omega
theorem QBW {tx:ZE}:∀ {m:Int},(∀ c∈tx,48<=c.toNat/\c.toNat<=57)->0<=m->m<=Qcu tx m:=by
 induction tx with
 |nil=>intro m _ _; simp[Qcu]
 |cons c r ih =>
  intro m hd hm;have h1:=hd c (by simp);have h2:=ih (m:=10*m+((c.toNat:Int)-48)) (λx hx=>hd x (by simp[hx])) (by omega);simp only[Qcu]; omega
theorem QBC {tx:ZE}:∀ {m:Int},(∀ c∈tx,48<=c.toNat/\c.toNat<=57)->0<=m->m<=1000000000->(Qcu tx m<=1000000000->QaD tx m=(0,Qcu tx m))/\(1000000000<Qcu tx m->(QaD tx m).1=2):=by
 induction tx with
 |nil=>intro m _ _ h1; simp only[Qcu,QaD]; exact⟨λ_=>trivial,λh=>by omega⟩
 |cons c r ih =>
  intro m hd hm h1;have h2:=hd c (by simp);have hr:∀ x∈r,48<=x.toNat/\x.toNat<=57:=λx hx=>hd x (by simp[hx]);simp only[Qcu,QaD];by_cases h:1000000000<10*m+((c.toNat:Int)-48)
  . rw[Zo h];have:=QBW (m:=10*m+((c.toNat:Int)-48)) hr (by omega);exact⟨λh3=>by omega,λ_=>rfl⟩
  . rw[Zn h];exact ih hr (by omega) (by omega)
theorem QBJ {tx:ZE} (hd:∀ c∈tx,48<=c.toNat/\c.toNat<=57) (h10:10<tx.length) (h0:tx.getD 0 0≠48):1000000000<Qcu tx 0:=by
 match tx,h10 with
 |c::r,h10 =>
  have h1:=hd c (by simp);have hne:c.toNat≠48:=λh=>h0 (by simp; exact UInt8.toNat_inj.1 h);have h2:=(QBH (tx:=r) (m:=10*0+((c.toNat:Int)-48)) (λx hx=>hd x (by simp[hx])) (by omega)).1;simp only[Qcu];have h3:(10:Int) ^ 10<=10 ^ r.length:=by
   have:(10:Nat) ^ 10<=10 ^ r.length:=Nat.pow_le_pow_right (by omega) (by simp at h10; omega)
   exact_mod_cast this
  have h4:(1:Int)*10 ^ r.length<=(10*0+((c.toNat:Int)-48))*10 ^ r.length:=Zm (by omega) (Int.pow_nonneg (by omega));have:(10:Int) ^ 10=10000000000:=by decide
  omega
end Go.Proofs.YtmkdpmfhlfhjkaaGreatDoor
