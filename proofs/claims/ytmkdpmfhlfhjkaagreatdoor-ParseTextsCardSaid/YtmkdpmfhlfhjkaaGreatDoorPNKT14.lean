/-
  Steps of the proof: contracts of functions and plain facts that the statement rests on.
-/
import Derived.Test.YtmkdpmfhlfhjkaaGreatDoorPart1
set_option linter.all false
namespace Go.Proofs.YtmkdpmfhlfhjkaaGreatDoor
open Go.Ab
def whtB (c:Nat):Bool:=decide (c=32∨c=9∨c=10)
theorem cls_all:((List.range 256).all fun n=>(decide (cls n=2)==ltrB n)&&(decide (cls n=3)==dgtB n)&&(decide (cls n=1)==whtB n)&&(decide (cls n=4)==(decide (n=33∨n=46)||(([123,125,40,41,58,59,44,43,45,42,47,37,60,62,61]:List Nat).contains n))))=true:=by kernel_rfl
theorem cls_at {n:Nat} (h:n<256):(cls n=2↔ltrB n=true)∧(cls n=3↔dgtB n=true)∧(cls n=1↔whtB n=true)∧(cls n=4↔((n=33∨n=46)∨n∈([123,125,40,41,58,59,44,43,45,42,47,37,60,62,61]:List Nat))):=by
 have:=List.all_eq_true.1 cls_all n (List.mem_range.2 h)
 simp only[Bool.and_eq_true,beq_iff_eq]at this
 obtain⟨⟨⟨h1,h2⟩,h3⟩,h4⟩:=this
 refine⟨?_,?_,?_,?_⟩
 · rw[←h1]; simp
 · rw[←h2]; simp
 · rw[←h3]; simp
 · have h5:(cls n=4)↔(decide (cls n=4)=true):=by simp
   rw[h5,h4]; simp
section
variable {H:List AO}
theorem ok81 (n:Nat) (hn:n<256):Ok Tryz.prog 81 [u8 n] H (.ret (bl (whtB n))) H:=by
 refine ok_fn hm Tryz.func81 c81 (by simp) fun hcl => ?_
 simp -implicitDefEqProofs[i81,r81]
 have e:((decide ((n:Int)=32)||decide ((n:Int)=9))||decide ((n:Int)=10))=whtB n:=by rw[Bool.eq_iff_iff]; simp[whtB]; omega
 rw[e]; exact cv_id
theorem ok141 (n:Nat) (hn:n<256):Ok Tryz.prog 141 [u8 n] H (.ret (bl (dgtB n))) H:=by
 refine ok_fn hm Tryz.func141 c141 (by simp) fun hcl => ?_
 simp -implicitDefEqProofs[i141,r141]
 have e:(decide (48≤(n:Int))&&decide ((n:Int)≤57))=dgtB n:=by rw[Bool.eq_iff_iff]; simp[dgtB]; omega
 rw[e]; exact cv_id
theorem ok83 (n:Nat) (hn:n<256):Ok Tryz.prog 83 [u8 n] H (.ret (bl (ltrB n))) H:=by
 refine ok_fn hm Tryz.func83 c83 (by simp) fun hcl => ?_
 simp -implicitDefEqProofs[i83,r83]
 have e:(decide (65≤(n:Int))&&decide ((n:Int)≤90)||decide (97≤(n:Int))&&decide ((n:Int)≤122)||decide ((n:Int)=95))=ltrB n:=by rw[Bool.eq_iff_iff]; simp[ltrB]; omega
 refine⟨by omega,by omega,by omega,?_⟩
 rw[e]; exact cv_id
theorem ok143 (s:List UInt8):Ok Tryz.prog 143 [st (B s)] H (.ret (bl (decide (s∈dbls)))) H:=by
 refine ok_fn hm Tryz.func143 c143 (by simp) fun hcl => ?_
 simp -implicitDefEqProofs[i143,r143]
 have e:(decide (s=[61,61])||decide (s=[33,61])||decide (s=[60,61])||decide (s=[62,61])||decide (s=[46,46]))=decide (s∈dbls):=by rw[Bool.eq_iff_iff]; simp[dbls,or_assoc]
 rw[e]; exact cv_id
def sgls:List UInt8:=[123,125,40,41,58,59,44,43,45,42,47,37,60,62,61]
theorem loop144 {c:UInt8} {N:Nat} {K:XE->Env->List AO->Prop} (hyes:c∈sgls->∀ env,env.get 2=bl true->K .ret env H) (hno:c∉sgls->∀ env,K (.exit 0) env H) :
 ∀ (k i:Nat) (env:Env),i+k=sgls.length->c∉sgls.take i->env.get 0=u8 c.toNat->env.get 3=st (B sgls)->env.get 4=i64 i->LI Tryz.prog N drawB l144_0 env H K:=by
 intro k
 induction k with
 | zero =>
  intro i env hi hn h0 h3 h4
  refine li_go hm l144_0.eq_1 ?_
  have e:i=sgls.length:=by omega
  subst e
  rw[List.take_length]at hn
  simp -implicitDefEqProofs[h0,h3,h4]
  exact hno hn _
 | succ k ih =>
  intro i env hi hn h0 h3 h4
  refine li_go hm l144_0.eq_1 ?_
  have hlt:i<sgls.length:=by omega
  have hl15:sgls.length=15:=rfl
  have htk:sgls.take (i+1)=sgls.take i++[sgls[i]]:=List.take_succ_eq_append_getElem hlt
  have hmem:sgls[i]∈sgls:=List.getElem_mem hlt
  have f1:=u8i sgls[i] c
  simp -implicitDefEqProofs[h0,h3,h4,hlt]
  split
  · rename_i h
    exact hyes (by rw[←f1.1 h]; exact hmem) _ (by simp)
  · rename_i h
    refine ih (i+1) _ (by omega) ?_ (by simp[h0]) (by simp[h3]) (by simp[wrap_suc (show i<9223372036854775807 by omega)])
    rw[htk]
    intro hm
    rcases List.mem_append.1 hm with h2 | h2
    · exact hn h2
    · exact h (f1.2 (List.mem_singleton.1 h2).symm)
theorem ok144 (c:UInt8):Ok Tryz.prog 144 [u8 c.toNat] H (.ret (bl (decide (c∈sgls)))) H:=by
 refine ok_fn hm Tryz.func144 c144 (by simp) fun hcl => ?_
 simp -implicitDefEqProofs[i144,r144]
 refine loop144 (c:=c) (fun h env h2 => ?_) (fun h env => ?_) sgls.length 0 _ (by omega) (by simp) (by simp) (by simp[sgls]) (by simp)
 · simp -implicitDefEqProofs[h2,h]
   exact cv_id
 · simp -implicitDefEqProofs[h]
   exact cv_id
end
end Go.Proofs.YtmkdpmfhlfhjkaaGreatDoor
