/-
  Steps of the proof: contracts of functions and plain facts that the statement rests on.
-/
import Derived.Test.YtmkdpmfhlfhjkaaGreatDoorPNKT14
set_option linter.all false
namespace Go.Proofs.YtmkdpmfhlfhjkaaGreatDoor
open Go.Ab
def valF:List UInt8->Int->Int
 | [],m=>m
 | c::r,m=>valF r (10*m+((c.toNat:Int)-48))
theorem valF_ge {tx:List UInt8}:∀ {m:Int},(∀ c∈tx,48≤c.toNat∧c.toNat≤57)->0≤m->m*10 ^ tx.length≤valF tx m∧valF tx m<(m+1)*10 ^ tx.length:=by
 induction tx with
 | nil=>intro m _ _; simp[valF]; omega
 | cons c r ih =>
  intro m hd hm
  have h1:=hd c (by simp)
  have h2:=ih (m:=10*m+((c.toNat:Int)-48)) (fun x hx=>hd x (by simp[hx])) (by omega)
  simp only[valF,List.length_cons]
  have e:(10:Int) ^ (r.length+1)=10*10 ^ r.length:=by rw[Int.pow_succ]; omega
  have hp:(0:Int)≤10 ^ r.length:=Int.pow_nonneg (by omega)
  rw[e]
  generalize (10:Int) ^ r.length=t at h2 hp
  constructor
  · have:m*(10*t)≤(10*m+((c.toNat:Int)-48))*t:=by
     have e2:m*(10*t)=(10*m)*t:=by rw[Int.mul_comm 10 m,Int.mul_assoc]
     rw[e2]; exact Int.mul_le_mul_of_nonneg_right (by omega) hp
    omega
  · have:(10*m+((c.toNat:Int)-48)+1)*t≤(m+1)*(10*t):=by
     have e2:(m+1)*(10*t)=(10*(m+1))*t:=by rw[Int.mul_comm 10 (m+1),Int.mul_assoc]
     rw[e2]; exact Int.mul_le_mul_of_nonneg_right (by omega) hp
    omega
theorem valF_le {tx:List UInt8}:∀ {m:Int},(∀ c∈tx,48≤c.toNat∧c.toNat≤57)->0≤m->m≤valF tx m:=by
 induction tx with
 | nil=>intro m _ _; simp[valF]
 | cons c r ih =>
  intro m hd hm
  have h1:=hd c (by simp)
  have h2:=ih (m:=10*m+((c.toNat:Int)-48)) (fun x hx=>hd x (by simp[hx])) (by omega)
  simp only[valF]; omega
theorem numR_val {tx:List UInt8}:∀ {m:Int},(∀ c∈tx,48≤c.toNat∧c.toNat≤57)->0≤m->m≤1000000000->(valF tx m≤1000000000->numR tx m=(0,valF tx m))∧(1000000000<valF tx m->(numR tx m).1=2):=by
 induction tx with
 | nil=>intro m _ _ h1; simp only[valF,numR]; exact⟨fun _=>trivial,fun h=>by omega⟩
 | cons c r ih =>
  intro m hd hm h1
  have h2:=hd c (by simp)
  have hr:∀ x∈r,48≤x.toNat∧x.toNat≤57:=fun x hx=>hd x (by simp[hx])
  simp only[valF,numR]
  by_cases h:1000000000<10*m+((c.toNat:Int)-48)
  · rw[if_pos h]
    have:=valF_le (m:=10*m+((c.toNat:Int)-48)) hr (by omega)
    exact⟨fun h3=>by omega,fun _=>rfl⟩
  · rw[if_neg h]
    exact ih hr (by omega) (by omega)
theorem numW_long {tx:List UInt8} (hd:∀ c∈tx,48≤c.toNat∧c.toNat≤57) (h10:10<tx.length) (h0:tx.getD 0 0≠48):1000000000<valF tx 0:=by
 match tx,h10 with
 | c::r,h10 =>
  have h1:=hd c (by simp)
  have hne:c.toNat≠48:=fun h=>h0 (by simp; exact UInt8.toNat_inj.1 h)
  have h2:=(valF_ge (tx:=r) (m:=10*0+((c.toNat:Int)-48)) (fun x hx=>hd x (by simp[hx])) (by omega)).1
  simp only[valF]
  have h3:(10:Int) ^ 10≤10 ^ r.length:=by
   have:(10:Nat) ^ 10≤10 ^ r.length:=Nat.pow_le_pow_right (by omega) (by simp at h10; omega)
   exact_mod_cast this
  have h4:(1:Int)*10 ^ r.length≤(10*0+((c.toNat:Int)-48))*10 ^ r.length:=Int.mul_le_mul_of_nonneg_right (by omega) (Int.pow_nonneg (by omega))
  have:(10:Int) ^ 10=10000000000:=by decide
  omega
end Go.Proofs.YtmkdpmfhlfhjkaaGreatDoor
