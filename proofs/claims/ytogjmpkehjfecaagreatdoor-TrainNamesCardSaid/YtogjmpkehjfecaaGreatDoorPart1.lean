/-
  Steps of the proof: contracts of functions and plain facts that the statement rests on.
-/
import Derived.Test.YtogjmpkehjfecaaGreatDoorCore5
import Derived.Test.YtogjmpkehjfecaaGreatDoorRows
set_option linter.all false
namespace Go.Ab.Lm
def B:Nat:=1000000000
def val:List Nat->Nat
 | []=>0
 | x::r=>x+B*val r
def Dig (l:List Nat):Prop:=∀ x∈l,x<B
def trimL:List Nat->List Nat
 | []=>[]
 | x::r=>if trimL r=[]∧x=0 then []else x::trimL r
theorem B_pos:0<B:=by decide
def lim (n:Nat):List Nat:=if h:n=0 then []else(n % B)::lim (n / B)
termination_by n
decreasing_by exact Nat.div_lt_self (Nat.pos_of_ne_zero h) (by decide)
theorem lim_0:lim 0=[]:=by unfold lim; rfl
theorem lim_pos {n:Nat} (h:n≠0):lim n=(n % B)::lim (n / B):=by rw[lim,dif_neg h]
theorem val_lim:∀ n:Nat,val (lim n)=n:=by
 intro n
 induction n using Nat.strongRecOn with
 | ind n ih =>
  by_cases h:n=0
  · subst h; rw[lim_0]; rfl
  · rw[lim_pos h,val,ih _ (Nat.div_lt_self (Nat.pos_of_ne_zero h) (by decide))]
    exact Nat.mod_add_div n B
theorem lim_dig:∀ n:Nat,Dig (lim n):=by
 intro n
 induction n using Nat.strongRecOn with
 | ind n ih =>
  by_cases h:n=0
  · subst h; rw[lim_0]; intro x hx; cases hx
  · rw[lim_pos h]
    intro x hx
    rcases List.mem_cons.1 hx with rfl | hx
    · exact Nat.mod_lt _ B_pos
    · exact ih _ (Nat.div_lt_self (Nat.pos_of_ne_zero h) (by decide)) x hx
theorem lim_nil {n:Nat}:lim n=[]↔n=0:=by
 by_cases h:n=0
 · subst h; simp[lim_0]
 · rw[lim_pos h]; simp[h]
theorem Dig.tail {x:Nat} {r:List Nat} (h:Dig (x::r)):Dig r:=fun y hy=>h y (List.mem_cons_of_mem _ hy)
theorem Dig.app {a b:List Nat} (h:Dig a) (h':Dig b):Dig (a++b):=fun x hx=>by
 rcases List.mem_append.1 hx with h1 | h1
 · exact h x h1
 · exact h' x h1
theorem trim_lim:∀ {l:List Nat},Dig l->trimL l=lim (val l)
 | [],_=>by rw[val,lim_0]; rfl
 | x::r,h=>by
  have ih:=trim_lim h.tail
  have hx:=h x (by simp)
  unfold trimL
  simp only[ih,lim_nil]
  by_cases hc:val r=0∧x=0
  · rw[if_pos hc,val,hc.1,hc.2,Nat.mul_zero,lim_0]
  · rw[if_neg hc]
    have hne:x+B*val r≠0:=by
     intro e
     apply hc
     have h1:B*val r=0:=by omega
     rcases Nat.mul_eq_zero.1 h1 with h2 | h2
     · exact absurd h2 (by decide)
     · exact⟨h2,by omega⟩
    rw[val,lim_pos hne]
    have e1:(x+B*val r) % B=x:=by rw[Nat.add_mul_mod_self_left]; exact Nat.mod_eq_of_lt hx
    have e2:(x+B*val r) / B=val r:=by rw[Nat.add_mul_div_left _ _ B_pos,Nat.div_eq_of_lt hx,Nat.zero_add]
    rw[e1,e2]
theorem trim_len:∀ l:List Nat,(trimL l).length≤l.length
 | []=>Nat.le_refl _
 | x::r=>by
  have:=trim_len r
  unfold trimL
  split
  · simp
  · simp; exact this
theorem trim_snoc0:∀ l:List Nat,trimL (l++[0])=trimL l
 | []=>by simp[trimL]
 | x::r=>by simp only[List.cons_append,trimL,trim_snoc0 r]
theorem trim_snoc {y:Nat} (hy:y≠0):∀ l:List Nat,trimL (l++[y])=l++[y]
 | []=>by simp[trimL,hy]
 | x::r=>by simp[trimL,trim_snoc hy r]
theorem val_app:∀ (a b:List Nat),val (a++b)=val a+B ^ a.length*val b
 | [],b=>by simp[val]
 | x::a,b=>by
  simp only[List.cons_append,val,val_app a b,List.length_cons,Nat.pow_succ]
  rw[Nat.mul_add,<- Nat.mul_assoc,Nat.mul_comm B (B ^ a.length),Nat.add_assoc]
theorem val_lt:∀ {l:List Nat},Dig l->val l<B ^ l.length
 | [],_=>by simp[val]
 | x::r,h=>by
  have ih:=val_lt h.tail
  have hx:=h x (by simp)
  simp only[val,List.length_cons,Nat.pow_succ]
  have:B*(val r+1)≤B*B ^ r.length:=Nat.mul_le_mul_left _ ih
  rw[Nat.mul_add,Nat.mul_one]at this
  rw[Nat.mul_comm (B ^ r.length) B]
  omega
theorem pow_pos' (k:Nat):0<B ^ k:=Nat.pow_pos B_pos
theorem lim_ge:∀ {n:Nat},n≠0->B ^ ((lim n).length-1)≤n:=by
 intro n
 induction n using Nat.strongRecOn with
 | ind n ih =>
  intro h
  rw[lim_pos h]
  by_cases h1:n / B=0
  · rw[h1,lim_0]; simp; omega
  · have hi:=ih _ (Nat.div_lt_self (Nat.pos_of_ne_zero h) (by decide)) h1
    have hl:(lim (n / B)).length≠0:=by
     intro e
     exact h1 (lim_nil.1 (List.eq_nil_of_length_eq_zero e))
    simp only[List.length_cons,Nat.add_sub_cancel]
    obtain⟨k,hk⟩:∃ k,(lim (n / B)).length=k+1:=⟨(lim (n / B)).length-1,by omega⟩
    rw[hk]at hi ⊢
    simp only[Nat.add_sub_cancel]at hi
    rw[Nat.pow_succ]
    have h2:=Nat.mul_le_mul_right B hi
    have h3:=Nat.div_mul_le_self n B
    omega
theorem lim_lt (n:Nat):n<B ^ (lim n).length:=by
 have:=val_lt (lim_dig n)
 rwa [val_lim]at this
theorem lim_len_le {n k:Nat} (h:n<B ^ k):(lim n).length≤k:=by
 by_cases h0:n=0
 · subst h0; rw[lim_0]; simp
 · have h1:=lim_ge h0
   apply Nat.le_of_not_lt
   intro hk
   have:B ^ k≤B ^ ((lim n).length-1):=Nat.pow_le_pow_right B_pos (by omega)
   omega
theorem lim_mono {m n:Nat} (h:m≤n):(lim m).length≤(lim n).length:=lim_len_le (Nat.lt_of_le_of_lt h (lim_lt n))
theorem val_cmp {a b:List Nat} {k:Nat} (ha:a.length=k) (hb:b.length=k) (hda:Dig a) (hdb:Dig b) {x y:Nat} (h:x<y) (c:List Nat):val (a++x::c)<val (b++y::c):=by
 rw[val_app,val_app,ha,hb]
 have h1:=val_lt hda
 have h2:=val_lt hdb
 rw[ha]at h1
 rw[hb]at h2
 simp only[val]
 have h3:B ^ k*(x+1+B*val c)≤B ^ k*(y+B*val c):=Nat.mul_le_mul_left _ (by omega)
 have h4:B ^ k*(x+1+B*val c)=B ^ k*(x+B*val c)+B ^ k:=by
  rw[show x+1+B*val c=(x+B*val c)+1 by omega,Nat.mul_add,Nat.mul_one]
 omega
end Go.Ab.Lm
namespace Go.Proofs.YtogjmpkehjfecaaGreatDoor
open Go.Ab
def brujL:List Int:=[0,1,56,2,57,49,28,3,61,58,42,50,38,29,17,4,62,47,59,36,45,43,51,22,53,39,33,30,24,18,12,5,63,55,48,27,60,41,37,16,46,35,44,21,52,32,23,11,54,26,40,15,34,20,31,10,25,14,19,9,13,8,7,6]
def gv0:List SV:=brujL.map fun n=>.val (.int .u8 n)
instance glob:GlobEnv:=⟨fun
 | 0=>some (brujL.map (Value.int .u8))
 | _=>none⟩
end Go.Proofs.YtogjmpkehjfecaaGreatDoor
