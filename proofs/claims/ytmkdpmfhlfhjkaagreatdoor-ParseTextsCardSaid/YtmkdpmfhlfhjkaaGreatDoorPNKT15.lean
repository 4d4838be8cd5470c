/-
  Steps of the proof: contracts of functions and plain facts that the statement rests on.
-/
import Derived.Test.YtmkdpmfhlfhjkaaGreatDoorPNKT14
set_option linter.all false
namespace Go.Proofs.YtmkdpmfhlfhjkaaGreatDoor
open Go.Ab
def valF:List UInt8->Int->Int
 | [],m=>m
 | c::r,m=>valF r (10*m+((c.toNat:Int)-48))
def numW (tx:List UInt8):Int×Int:=if 1<tx.length∧tx.getD 0 0=48 then(3,0)else numR tx 0
theorem valF_ge {tx:List UInt8}:∀ {m:Int},(∀ c∈tx,48≤c.toNat∧c.toNat≤57)->0≤m->m*10 ^ tx.length≤valF tx m∧valF tx m<(m+1)*10 ^ tx.length:=by
 induction tx with
 | nil=>intro m _ _; simp[valF]; omega
 | cons c r ih =>
  intro m hd hm
  have h1:=hd c (by simp)
  have h2:=ih (m:=10*m+((c.toNat:Int)-48)) (fun x hx=>hd x (by simp[hx])) (by omega)
  simp only[valF,List.length_cons]
  have e:(10:Int) ^ (r.length+1)=10*10 ^ r.length:=by rw[Int.pow_succ]; omega
  have hp:(0:Int)≤10 ^ r.length:=Int.pow_nonneg (by omega)
  rw[e]
  generalize (10:Int) ^ r.length=t at h2 hp
  constructor
  · have:m*(10*t)≤(10*m+((c.toNat:Int)-48))*t:=by
     have e2:m*(10*t)=(10*m)*t:=by rw[Int.mul_comm 10 m,Int.mul_assoc]
     rw[e2]; exact Int.mul_le_mul_of_nonneg_right (by omega) hp
    omega
  · have:(10*m+((c.toNat:Int)-48)+1)*t≤(m+1)*(10*t):=by
     have e2:(m+1)*(10*t)=(10*(m+1))*t:=by rw[Int.mul_comm 10 (m+1),Int.mul_assoc]
     rw[e2]; exact Int.mul_le_mul_of_nonneg_right (by omega) hp
    omega
theorem valF_le {tx:List UInt8}:∀ {m:Int},(∀ c∈tx,48≤c.toNat∧c.toNat≤57)->0≤m->m≤valF tx m:=by
 induction tx with
 | nil=>intro m _ _; simp[valF]
 | cons c r ih =>
  intro m hd hm
  have h1:=hd c (by simp)
  have h2:=ih (m:=10*m+((c.toNat:Int)-48)) (fun x hx=>hd x (by simp[hx])) (by omega)
  simp only[valF]; omega
theorem numR_val {tx:List UInt8}:∀ {m:Int},(∀ c∈tx,48≤c.toNat∧c.toNat≤57)->0≤m->m≤1000000000->(valF tx m≤1000000000->numR tx m=(0,valF tx m))∧(1000000000<valF tx m->(numR tx m).1=2):=by
 induction tx with
 | nil=>intro m _ _ h1; simp only[valF,numR]; exact⟨fun _=>trivial,fun h=>by omega⟩
 | cons c r ih =>
  intro m hd hm h1
  have h2:=hd c (by simp)
  have hr:∀ x∈r,48≤x.toNat∧x.toNat≤57:=fun x hx=>hd x (by simp[hx])
  simp only[valF,numR]
  by_cases h:1000000000<10*m+((c.toNat:Int)-48)
  · rw[if_pos h]
    have:=valF_le (m:=10*m+((c.toNat:Int)-48)) hr (by omega)
    exact⟨fun h3=>by omega,fun _=>rfl⟩
  · rw[if_neg h]
    exact ih hr (by omega) (by omega)
theorem numW_long {tx:List UInt8} (hd:∀ c∈tx,48≤c.toNat∧c.toNat≤57) (h10:10<tx.length) (h0:tx.getD 0 0≠48):1000000000<valF tx 0:=by
 match tx,h10 with
 | c::r,h10 =>
  have h1:=hd c (by simp)
  have hne:c.toNat≠48:=fun h=>h0 (by simp; exact UInt8.toNat_inj.1 h)
  have h2:=(valF_ge (tx:=r) (m:=10*0+((c.toNat:Int)-48)) (fun x hx=>hd x (by simp[hx])) (by omega)).1
  simp only[valF]
  have h3:(10:Int) ^ 10≤10 ^ r.length:=by
   have:(10:Nat) ^ 10≤10 ^ r.length:=Nat.pow_le_pow_right (by omega) (by simp at h10; omega)
   exact_mod_cast this
  have h4:(1:Int)*10 ^ r.length≤(10*0+((c.toNat:Int)-48))*10 ^ r.length:=Int.mul_le_mul_of_nonneg_right (by omega) (Int.pow_nonneg (by omega))
  have:(10:Int) ^ 10=10000000000:=by decide
  omega
theorem valF_snoc (c:UInt8):∀ (tx:List UInt8) (m:Int),valF (tx++[c]) m=10*valF tx m+((c.toNat:Int)-48)
 | [],m=>rfl
 | d::r,m=>by simp only[List.cons_append,valF]; exact valF_snoc c r _
section
variable {H:List AO}
theorem loop142 {tx:List UInt8} (hd:∀ c∈tx,48≤c.toNat∧c.toNat≤57) (h10:tx.length≤10) {N:Nat} {K:XE->Env->List AO->Prop} (hexit:∀ env,env.get 4=i64 (valF tx 0)->K (.exit 0) env H) :
 ∀ (k i:Nat) (env:Env),i+k=tx.length->env.get 0=st (B tx)->env.get 4=i64 (valF (tx.take i) 0)->env.get 5=i64 i->LI Tryz.prog N drawB l142_0 env H K:=by
 intro k
 induction k with
 | zero =>
  intro i env hi h0 h4 h5
  refine li_go hm l142_0.eq_1 ?_
  have e:i=tx.length:=by omega
  subst e
  rw[List.take_length]at h4
  simp -implicitDefEqProofs[h0,h4,h5]
  exact hexit _ (by simp[h4])
 | succ k ih =>
  intro i env hi h0 h4 h5
  refine li_go hm l142_0.eq_1 ?_
  have hlt:i<tx.length:=by omega
  have hc:=hd tx[i] (List.getElem_mem hlt)
  have e2:=valF_snoc tx[i] (tx.take i) 0
  rw[←List.take_succ_eq_append_getElem hlt]at e2
  have hb:=valF_ge (tx:=tx.take i) (m:=0) (fun c hc=>hd c (List.mem_of_mem_take hc)) (by omega)
  have h3:(10:Int) ^ (tx.take i).length≤10 ^ 10:=by
   have:(10:Nat) ^ (tx.take i).length≤10 ^ 10:=Nat.pow_le_pow_right (by omega) (by simp; omega)
   exact_mod_cast this
  have h10':(10:Int) ^ 10=10000000000:=by decide
  generalize valF (tx.take i) 0=m at h4 e2 hb
  have w1:IntKind.i64.wrap (10*m)=10*m:=wrap_id (by omega) (by omega)
  have w2:IntKind.u8.wrap ((tx[i].toNat:Int)-48)=(tx[i].toNat:Int)-48:=by unfold IntKind.wrap; simp[IntKind.signed,IntKind.bits]; omega
  have w3:IntKind.i64.wrap ((tx[i].toNat:Int)-48)=(tx[i].toNat:Int)-48:=wrap_id (by omega) (by omega)
  have w4:IntKind.i64.wrap (10*m+((tx[i].toNat:Int)-48))=10*m+((tx[i].toNat:Int)-48):=wrap_id (by omega) (by omega)
  simp -implicitDefEqProofs[h0,h4,h5,hlt,w1,w2,w3,w4]
  exact ih (i+1) _ (by omega) (by simp[h0]) (by simp[e2]) (by simp[wrap_suc (show i<9223372036854775807 by omega)])
theorem ok142 {tx:List UInt8} (hd:∀ c∈tx,48≤c.toNat∧c.toNat≤57) (hne:tx≠[]) (hl:tx.length<4611686018427387904) :
 Ok Tryz.prog 142 [st (B tx)] H (.ret (.tup [i64 (if(numW tx).1=0 then(numW tx).2 else 0),i64 (numW tx).1])) H:=by
 refine ok_fn hm Tryz.func142 c142 (by simp) fun hcl => ?_
 have hpos:0<tx.length:=List.length_pos_iff.2 hne
 have hg:tx.getD 0 0=tx[0]:=by simp[hpos]
 have f1:((tx[0].toNat:Int)=48)↔tx[0]=48:=u8i tx[0] 48
 by_cases h1:1<tx.length∧tx[0]=48
 · have hw:numW tx=(3,0):=by unfold numW; rw[hg,if_pos h1]
   have h1':(1:Int)<tx.length:=by omega
   rw[hw]
   simp -implicitDefEqProofs[i142,r142,hpos,h1',f1.2 h1.2]
   exact cv_id
 · have hw:numW tx=numR tx 0:=by unfold numW; rw[hg,if_neg h1]
   rw[hw]
   have hn:=numR_val (tx:=tx) (m:=0) hd (by omega) (by omega)
   by_cases h10:10<tx.length
   · have hbig:=numW_long hd h10 (by rw[hg]; intro h; exact h1 ⟨by omega,h⟩)
     rw[hn.2 hbig]
     have h10':(10:Int)<tx.length:=by omega
     have hx:¬ tx[0]=48:=fun h=>h1 ⟨by omega,h⟩
     simp -implicitDefEqProofs[i142,r142,hpos,h10',f1,hx]
     exact cv_id
   · simp -implicitDefEqProofs[i142,r142,hpos,f1]
     rw[if_neg (fun h=>h1 ⟨by omega,h.2⟩),if_neg (by omega)]
     refine loop142 hd (by omega) (fun env h4 => ?_) tx.length 0 _ (by omega) (by simp) (by simp[valF]) (by simp)
     by_cases hv:1000000000<valF tx 0
     · rw[hn.2 hv]
       simp -implicitDefEqProofs[h4,hv]
       exact cv_id
     · rw[hn.1 (by omega)]
       simp -implicitDefEqProofs[h4,hv]
       exact cv_id
end
end Go.Proofs.YtmkdpmfhlfhjkaaGreatDoor
