/-
  Steps of the proof: contracts of functions and plain facts that the statement rests on.
-/
import Derived.Test.YtogjmpkehjfecaaGreatDoorPart4
import Derived.Test.YtogjmpkehjfecaaGreatDoorPart1
import Derived.LaidMore
import Derived.OpenShut
import Derived.Stop.Joined
import Derived.LaidHandle
import Derived.Test.YtogjmpkehjfecaaGreatDoorCore4
set_option linter.all false
namespace Go.Proofs.YtogjmpkehjfecaaGreatDoor.Rc
open Go.Ab Go.Ab.Shr
section
variable {H:List AO}
theorem ex_sho:∀ l∈exT1.A,ShO l:=by
 intro l hl
 simp only[exT1,List.mem_cons,List.not_mem_nil,or_false]at hl
 rcases hl with rfl | rfl | rfl<;>refine⟨by decide,by decide,fun v hv => ?_⟩<;>simp at hv<;>omega
theorem fz_three {X:List AO} {p q0 q1 q2:Nat} {l0 l1 l2:List Int} (h:X[p]? = some ⟨[.own q0 0 l0.length 1 0,.own q1 0 l1.length 1 0,.own q2 0 l2.length 1 0],45,0,true⟩) (h0:X[q0]? = some ⟨ints l0,3,0,true⟩) (h1:X[q1]? = some ⟨ints l1,3,0,true⟩) (h2:X[q2]? = some ⟨ints l2,3,0,true⟩) :
 SV.fz 0 [] X 4 (.own p 0 3 1 0)=.slc (sls [l0,l1,l2]) 3:=by
 have:=fz_outsN (H:=[]) (G:=X) (I:=3) (p:=p) (q:=fun i=>[q0,q1,q2].getD i 0) (n:=fun i=>[l0.length,l1.length,l2.length].getD i 0) (A:=fun i=>[l0,l1,l2].getD i []) (v:=0) (w:=0) (T:=45) (by simp) (by rw[h]; rfl) (fun i hi=>by
  have hi3:i=0∨i=1∨i=2:=by omega
  rcases hi3 with rfl | rfl | rfl
  · exact⟨by simp,h0,rfl⟩
  · exact⟨by simp,h1,rfl⟩
  · exact⟨by simp,h2,rfl⟩) 1
 exact this
set_option maxRecDepth 10000 in
theorem ok6:Ok Tryz.prog 6 [] H (.ret (bl true)) H:=by
 refine ok_fn hm Tryz.func6 c6 (by simp) fun hcl => ?_
 have h13:=fun H=>ok8 (H:=H) (g:=exG)
 have h15:=fun H=>ok10 (H:=H) (g:=exG) exT0
 have h14:=fun H=>ok9 (H:=H) (g:=exG) (t:=exT1) (chk_zero ex_chk).1 ex_chk (chk_tin ex_chk) ex_sho
 rw[ex_new]at h13
 rw[ex_run]at h15
 rw[ex_shr]at h14
 simp only[Tin.cells]at h13 h15 h14
 simp -implicitDefEqProofs[i6,r6]
 refine call_go ok7 ?_
 simp -implicitDefEqProofs
 refine call_go (h13 _) ?_
 simp -implicitDefEqProofs
 refine callq_go (fun _=>ok7) ?_
 simp -implicitDefEqProofs
 refine callq_go (fun _=>h15 _) ?_
 simp -implicitDefEqProofs
 refine callq_go (fun _=>ok7) ?_
 simp -implicitDefEqProofs
 refine callq_go (fun _=>h14 _) ?_
 simp -implicitDefEqProofs
 have e1:∀ L:List AO,SV.fz 0 [] (H++L) 4 (.slc (sls exT1.A) exT1.A.length)=.slc (sls exT1.A) exT1.A.length:=fun L=>fz_under (by simp[sls_under])
 have at':∀ (L:List AO) (k:Nat),(H++L)[H.length+k]? = L[k]? := fun L k=>by rw[List.getElem?_append_right (by omega)]; congr 1; omega
 refine callq_st (r:=bl true) (fun _=>Ok.fz 4 ?_) ?_
 · simp only[List.map_cons,List.map_nil,SV.strip,e1]
   rw[fz_three (l0:=[171,-171]) (l1:=[341,-341]) (l2:=[341,-1194,853]) (by rw[at' _ 4]; rfl) (by rw[at' _ 1]; rfl) (by rw[at' _ 2]; rfl) (by rw[at' _ 3]; rfl)]
   exact ok15s (A:=exT1.A) (by decide) (by decide)
 simp -implicitDefEqProofs
 have e2:∀ L:List AO,SV.fz 0 [] (H++L) 4 (.slc (sls [[65536,0],[65536,0],[18717,0,46819]]) exG.is.length)=.slc (sls [[65536,0],[65536,0],[18717,0,46819]]) exG.is.length:=fun L=>fz_under (by simp[sls_under])
 refine callq_st (r:=bl true) (fun _=>Ok.fz 4 ?_) ?_
 · simp only[List.map_cons,List.map_nil,SV.strip,e2]
   rw[fz_three (l0:=[65536,0]) (l1:=[65536,0]) (l2:=[18717,0,46819]) (by rw[at' _ 8]; rfl) (by rw[at' _ 5]; rfl) (by rw[at' _ 6]; rfl) (by rw[at' _ 7]; rfl)]
   exact ok15s (A:=[[65536,0],[65536,0],[18717,0,46819]]) (by decide) (by decide)
 simp -implicitDefEqProofs
 exact cv_fz 1 hcl rfl (by simp)
end
end Go.Proofs.YtogjmpkehjfecaaGreatDoor.Rc
namespace Go.Proofs.YtogjmpkehjfecaaGreatDoor.Rc
open Go.Ab Go.Ab.Lm
def qC (q:Qr):List SV:=[bl q.neg,nS q.n,nS q.d]
theorem qC_len (q:Qr):(qC q).length=3:=rfl
def ratsV (l:List Qr):SV:=.slc (rws qC l) l.length
def mixV (L:List (List Qr)):SV:=.slc (L.map ratsV) L.length
def ratQ (x y:Int):Qr:=low (decide (x<0) != decide (y<0)) x.natAbs y.natAbs
theorem ratS_eq (x y:Int):ratS x y=.agg (qC (ratQ x y)):=rfl
def sumI:List Int->Int
 | []=>0
 | x::r=>x+sumI r
def avgL (l:List Int):List Qr:=l.map fun x=>if sumI l=0 then ratQ 1 l.length else ratQ x (sumI l)
theorem sumI_app:∀ (a b:List Int),sumI (a++b)=sumI a+sumI b
 | [],b=>by simp[sumI]
 | x::a,b=>by simp only[List.cons_append,sumI,sumI_app a b]; omega
theorem sumI_rng:∀ {l:List Int},(∀ x∈l,0≤x∧x≤70368744177664)->0≤sumI l∧sumI l≤70368744177664*l.length
 | [],_=>by simp[sumI]
 | x::r,h=>by
  have h1:=h x (by simp)
  have h2:=sumI_rng (l:=r) fun y hy=>h y (List.mem_cons_of_mem _ hy)
  simp only[sumI,List.length_cons]
  omega
section
variable {H X:List AO}
set_option maxRecDepth 10000 in
theorem zlp12_1 {l:List Int} (hl:l.length≤10) (hr:∀ x∈l,0≤x∧x≤70368744177664) {x7 x8 x9 x30 x31 x32:SV} {N:Nat} {K:XE->Env->List AO->Prop}
 (hexit:∀ env,env.get 7=x7->env.get 8=x8->env.get 9=x9->env.get 30=x30->env.get 31=x31->env.get 32=x32->env.get 10=i64 (sumI l)->K (.exit 2) env X) :
 ∀ (m i:Nat) (env:Env),i+m=l.length->env.get 7=x7->env.get 8=x8->env.get 9=x9->env.get 30=x30->env.get 31=x31->env.get 32=x32->env.get 10=i64 (sumI (l.take i))->env.get 37=sl l->env.get 38=i64 l.length->env.get 39=i64 i →
  LI Tryz.prog N drawB l12_1 env X K:=by
 intro m
 induction m with
 | zero =>
  intro i env hi h7 h8 h9 h30 h31 h32 h10 h37 h38 h39
  refine li_go hm' l12_1.eq_1 ?_
  have e:i=l.length:=by omega
  subst e
  rw[List.take_length]at h10
  simp -implicitDefEqProofs[h38,h39]
  exact hexit _ (by simp[h7]) (by simp[h8]) (by simp[h9]) (by simp[h30]) (by simp[h31]) (by simp[h32]) (by simp[h10])
 | succ m ih =>
  intro i env hi h7 h8 h9 h30 h31 h32 h10 h37 h38 h39
  refine li_go hm' l12_1.eq_1 ?_
  have hil:i<l.length:=by omega
  have h1:=hr _ (List.getElem_mem hil)
  have h2:=sumI_rng (l:=l.take i) fun x hx=>hr x (List.mem_of_mem_take hx)
  have h3:(l.take i).length=i:=by simp; omega
  have hs:sumI (l.take (i+1))=sumI (l.take i)+l[i]:=by
   rw[List.take_succ_eq_append_getElem hil,sumI_app]
   simp[sumI]
  have w1:=wrap_suc (show i<9223372036854775807 by omega)
  have ws:IntKind.i64.wrap (sumI (l.take i)+l[i])=sumI (l.take (i+1)):=by rw[hs]; exact wrap_id (by omega) (by omega)
  simp -implicitDefEqProofs[h7,h8,h9,h30,h31,h32,h10,h37,h38,h39,hil,sl,ws]
  repeat (refine⟨by omega,?_⟩)
  refine ih (i+1) _ (by omega) ?_ ?_ ?_ ?_ ?_ ?_ ?_ ?_ ?_ ?_
  · simp[h7]
  · simp[h8]
  · simp[h9]
  · simp[h30]
  · simp[h31]
  · simp[h32]
  · simp
  · simp[sl]
  · simp
  · simp[w1]
def zc3 (k:Nat):List SV:=rws (fun _:Nat=>[bl false,nl,nl]) (List.range k)
theorem rws_map {α β:Type} (f:β->List SV) (k:α->β):∀ l:List α,rws f (l.map k)=rws (fun x=>f (k x)) l
 | []=>rfl
 | x::r=>by simp only[List.map_cons,rws,rws_map f k r]
set_option maxRecDepth 10000 in
theorem zlp12_2 {l:List Int} (hl:l.length≤10) (h0:0<l.length) (hr:∀ x∈l,0≤x∧x≤70368744177664) {A C:List AO} {i0 p n:Nat} {cs:List SV} {x30 x31 x32:SV} (hi0:i0<cs.length) (hcs:cs[i0]? = some (.own p 0 l.length 3 0)) (hn:n=cs.length) (hp:p=A.length+(C.length+1)) {N:Nat} {K:XE->Env->List AO->Prop}
 (hexit:∀ env G,Cl 0 G->env.get 7=.own A.length 0 n 1 0->env.get 30=x30->env.get 31=x31->env.get 32=x32->K (.exit 4) env (A++⟨cs,74,0,true⟩::(C++⟨rws qC (avgL l),78,0,true⟩::G))) :
 ∀ (m i:Nat) (env:Env) (G:List AO),i+m=l.length->Cl 0 G->env.get 7=.own A.length 0 n 1 0->env.get 8=i64 i0->env.get 9=sl l->env.get 10=i64 (sumI l)->env.get 30=x30->env.get 31=x31->env.get 32=x32->env.get 53=sl l->env.get 54=i64 l.length->env.get 55=i64 i →
  LI Tryz.prog N drawB l12_2 env (A++⟨cs,74,0,true⟩::(C++⟨rws qC ((avgL l).take i)++zc3 m,78,0,true⟩::G)) K:=by
 have hsr:=sumI_rng hr
 have hal:(avgL l).length=l.length:=by simp[avgL]
 intro m
 induction m with
 | zero =>
  intro i env G hi hG h7 h8 h9 h10 h30 h31 h32 h53 h54 h55
  refine li_go hm' l12_2.eq_1 ?_
  have e:i=l.length:=by omega
  subst e
  have e2:rws qC ((avgL l).take l.length)++zc3 0=rws qC (avgL l):=by
   rw[←hal,List.take_length]; simp[zc3,rws]
  rw[e2]
  simp -implicitDefEqProofs[h54,h55]
  exact hexit _ G hG (by simp[h7]) (by simp[h30]) (by simp[h31]) (by simp[h32])
 | succ m ih =>
  intro i env G hi hG h7 h8 h9 h10 h30 h31 h32 h53 h54 h55
  refine li_go hm' l12_2.eq_1 ?_
  have hil:i<l.length:=by omega
  have h1:=hr _ (List.getElem_mem hil)
  have w1:=wrap_suc (show i<9223372036854775807 by omega)
  have hav:(avgL l)[i]'(by omega)=if sumI l=0 then ratQ 1 l.length else ratQ l[i] (sumI l):=by simp[avgL]
  have hq:=fun H (x y:Int) hy hx1 hy1=>ok36 (H:=H) (x:=x) (y:=y) hy hx1 hy1
  simp only[ratS_eq]at hq
  have hc0:cs[i0]?.getD .any=.own p 0 l.length 3 0:=by rw[hcs]; rfl
  have hc1:∀ h,cs[i0]'h=.own p 0 l.length 3 0:=fun h=>by
   rw[List.getElem?_eq_getElem h]at hcs
   simpa using hcs
  have hz3:(zc3 (m+1)).length=(m+1)*3:=by rw[zc3,rws_len (fun _=>rfl)]; simp
  have htl:(rws qC ((avgL l).take i)).length=i*3:=by rw[rws_len qC_len]; simp; omega
  have hRl:(rws qC ((avgL l).take i)++zc3 (m+1)).length=l.length*3:=by simp only[List.length_append,hz3,htl]; omega
  have hia:i<(avgL l).length:=by omega
  have hset:List.take (i*3) (rws qC ((avgL l).take i)++zc3 (m+1))++(qC (avgL l)[i]++List.drop (i*3+3) (rws qC ((avgL l).take i)++zc3 (m+1)))=rws qC ((avgL l).take (i+1))++zc3 m:=by
   have e1:zc3 (m+1)=bl false::nl::nl::zc3 m:=by
    simp only[zc3]
    rw[show m+1=1+m by omega,List.range_add,rws_app]
    simp only[rws_map]
    rfl
   have e2:List.drop (i*3+3) (rws qC ((avgL l).take i)++zc3 (m+1))=zc3 m:=by
    rw[←List.drop_drop,<- htl,List.drop_left,e1]; rfl
   rw[e2,<- htl,List.take_left,List.take_succ_eq_append_getElem hia,rws_app,List.append_assoc]
   rfl
  have hih:=ih (i+1)
  rw[←hset]at hih
  generalize rws qC ((avgL l).take i)++zc3 (m+1)=R at *
  by_cases hz:sumI l=0
  · have h36:=fun H=>hq H 1 l.length (by omega) (by decide) (by omega)
    rw[if_pos hz]at hav
    rw[←hav]at h36
    generalize (avgL l)[i]=q at *
    simp only[qC,List.cons_append,List.nil_append]at h36 hih
    simp -implicitDefEqProofs[h7,h8,h9,h10,h30,h31,h32,h53,h54,h55,hil,sl,hz]
    repeat (refine⟨by omega,?_⟩)
    refine call_go (h36 _) ?_
    subst hp
    simp -implicitDefEqProofs[h7,h8,h9,h10,h30,h31,h32,h53,h54,h55,hil,sl,hz,hc0,hc1,hRl]
    refine⟨⟨rfl,rfl⟩,by omega,by omega,⟨rfl,rfl⟩,by omega,?_⟩
    refine hih _ _ (by omega) (hG.app (Cl.cons (by simp[SV.underL,SV.under,nS_under]) (Cl.nil _))) ?_ ?_ ?_ ?_ ?_ ?_ ?_ ?_ ?_ ?_
    · simp
    · simp
    · simp[sl]
    · simp[hz]
    · simp[h30]
    · simp[h31]
    · simp[h32]
    · simp[sl]
    · simp
    · simp[w1]
  · have h36:=fun H=>hq H l[i] (sumI l) hz (by omega) (by omega)
    rw[if_neg hz]at hav
    rw[←hav]at h36
    generalize (avgL l)[i]=q at *
    simp only[qC,List.cons_append,List.nil_append]at h36 hih
    simp -implicitDefEqProofs[h7,h8,h9,h10,h30,h31,h32,h53,h54,h55,hil,sl,hz]
    repeat (refine⟨by omega,?_⟩)
    refine call_go (h36 _) ?_
    subst hp
    simp -implicitDefEqProofs[h7,h8,h9,h10,h30,h31,h32,h53,h54,h55,hil,sl,hz,hc0,hc1,hRl]
    refine⟨⟨rfl,rfl⟩,by omega,by omega,⟨rfl,rfl⟩,by omega,?_⟩
    refine hih _ _ (by omega) (hG.app (Cl.cons (by simp[SV.underL,SV.under,nS_under]) (Cl.nil _))) ?_ ?_ ?_ ?_ ?_ ?_ ?_ ?_ ?_ ?_
    · simp
    · simp
    · simp[sl]
    · simp[hz]
    · simp[h30]
    · simp[h31]
    · simp[h32]
    · simp[sl]
    · simp
    · simp[w1]
end
end Go.Proofs.YtogjmpkehjfecaaGreatDoor.Rc
namespace Go.Proofs.YtogjmpkehjfecaaGreatDoor.Rc
open Go.Ab Go.Ab.Lm
theorem qC_under (k:Nat) (q:Qr):SV.underL k (qC q)=true:=by simp[qC,SV.underL,nS_under]
section
variable {H X:List AO}
def outC (P:List (List Int)) (i:Nat):List SV:=(P.take i).map (fun l=>ratsV (avgL l))++List.replicate (P.length-i) nl
theorem outC_len {P:List (List Int)} {i:Nat} (h:i≤P.length):(outC P i).length=P.length:=by simp[outC]; omega
theorem outC_under {P:List (List Int)} {i:Nat}:SV.underL 0 (outC P i)=true:=by
 rw[SV.underL_iff]
 intro s hs
 rcases List.mem_append.1 hs with h | h
 · obtain⟨l,_,rfl⟩:=List.mem_map.1 h
   simp only[ratsV,SV.under]
   exact rws_under (qC_under 0) _
 · rw[List.mem_replicate]at h
   rw[h.2]; rfl
theorem outC_suc {P:List (List Int)} {i:Nat} (h:i<P.length) (x:SV):List.take i (outC P i)++x::List.drop (i+1) (outC P i)=(outC P i).set i x:=by
 rw[List.set_eq_take_append_cons_drop,if_pos (by rw[outC_len (by omega)]; exact h)]
theorem outC_set {P:List (List Int)} {i:Nat} (h:i<P.length):(outC P i).set i (ratsV (avgL P[i]))=outC P (i+1):=by
 have hl:((P.take i).map (fun l=>ratsV (avgL l))).length=i:=by simp; omega
 unfold outC
 rw[List.set_append_right _ _ (by omega),hl,Nat.sub_self,List.take_succ_eq_append_getElem h,List.map_append,List.append_assoc]
 congr 1
 rw[show P.length-i=(P.length-(i+1))+1 by omega,List.replicate_succ]
 rfl
theorem zc3_flat:∀ k:Nat,zc3 k=(List.replicate k [bl false,nl,nl]).flatten
 | 0=>rfl
 | k+1=>by
  rw[List.replicate_succ,List.flatten_cons,<- zc3_flat k]
  simp only[zc3]
  rw[show k+1=1+k by omega,List.range_add,rws_app]
  simp only[rws_map]
  rfl
set_option maxRecDepth 10000 in
theorem zlp12_0 {A:List AO} {P:List (List Int)} (hcl:closed A) (hP:∀ l∈P,(1≤l.length∧l.length≤10)∧∀ x∈l,0≤x∧x≤70368744177664) (hPl:P.length≤100000) {N:Nat} {K:XE->Env->List AO->Prop}
 (hexit:∀ env Ld,env.get 7=.own A.length 0 P.length 1 0->K (.exit 0) env (A++⟨outC P P.length,74,0,true⟩::Ld)) :
 ∀ (m i:Nat) (env:Env) (Ld:List AO),i+m=P.length->Cl 0 Ld->env.get 7=.own A.length 0 P.length 1 0->env.get 30=.slc (sls P) P.length->env.get 31=i64 P.length->env.get 32=i64 i →
  LI Tryz.prog N drawB l12_0 env (A++⟨outC P i,74,0,true⟩::Ld) K:=by
 intro m
 induction m with
 | zero =>
  intro i env Ld hi hL h7 h30 h31 h32
  refine li_go hm' l12_0.eq_1 ?_
  have e:i=P.length:=by omega
  subst e
  simp -implicitDefEqProofs[h31,h32]
  exact hexit _ Ld (by simp[h7])
 | succ m ih =>
  intro i env Ld hi hL h7 h30 h31 h32
  refine li_go hm' l12_0.eq_1 ?_
  have hiP:i<P.length:=by omega
  obtain⟨⟨l1,l2⟩,l3⟩:=hP _ (List.getElem_mem hiP)
  have w1:=wrap_suc (show i<9223372036854775807 by omega)
  have hol:(outC P i).length=P.length:=outC_len (by omega)
  have hsuc:=fun x=>outC_suc hiP x
  have hset:=outC_set hiP
  have hun:=outC_under (P:=P) (i:=i)
  generalize hrow:P[i]=row at *
  have hsr:(sls P)[i]?.getD .any=sl row:=by rw[←hrow]; exact sls_at hiP
  have hsr2:∀ h,(sls P)[i]'h=sl row:=fun h=>by rw[←hrow]; exact sls_get hiP
  simp -implicitDefEqProofs[h7,h30,h31,h32,hiP,hsr,hsr2,sl]
  repeat (refine⟨by omega,?_⟩)
  refine zlp12_1 (x7:=.own A.length 0 P.length 1 0) (x8:=i64 i) (x9:=sl row) (x30:=.slc (sls P) P.length) (x31:=i64 P.length) (x32:=i64 i) l2 l3 ?_ row.length 0 _ (by simp) ?_ ?_ ?_ ?_ ?_ ?_ ?_ ?_ ?_ ?_
  rotate_left
  all_goals try simp[h7,h30,h31,h32,sumI,sl]
  intro env g7 g8 g9 g30 g31 g32 g10
  simp -implicitDefEqProofs[g7,g8,g9,g10,g30,g31,g32,sl,hol,hsuc]
  repeat (refine⟨by omega,?_⟩)
  have hfl:(List.replicate row.length [bl false,SV.val (Value.slice none 0 0),SV.val (Value.slice none 0 0)]).flatten=rws qC ((avgL row).take 0)++zc3 row.length:=by
   rw[List.take_zero]
   exact(zc3_flat row.length).symm
  rw[hfl]
  refine zlp12_2 (l:=row) (cs:=(outC P i).set i (.own (A.length+(Ld.length+1)) 0 row.length 3 0)) (i0:=i) (p:=A.length+(Ld.length+1)) (C:=Ld) (n:=P.length) (x30:=.slc (sls P) P.length) (x31:=i64 P.length) (x32:=i64 i) l2 l1 l3 (by simp; omega) (by simp[hol,hiP]) (by simp[hol]) rfl ?_ row.length 0 _ [] (by simp) (Cl.nil _) ?_ ?_ ?_ ?_ ?_ ?_ ?_ ?_ ?_ ?_
  rotate_left
  all_goals try simp[g7,g8,g9,g10,g30,g31,g32,sl]
  intro env G hG k7 k30 k31 k32
  simp -implicitDefEqProofs[k30,k31,k32]
  refine LI.tell (Tell.give hcl (Ld.length+1) 1 (o:=⟨rws qC (avgL row),78,0,true⟩) (by simp) rfl) ?_
  have hrl:(rws qC (avgL row)).length=row.length*3:=by rw[rws_len qC_len]; simp[avgL]
  have hgv:SV.gv (A.length+(Ld.length+1)) 0 (rws qC (avgL row)) 1 (.own (A.length+(Ld.length+1)) 0 row.length 3 0)=ratsV (avgL row):=by
   have hav:(avgL row).length=row.length:=by simp[avgL]
   simp only[ratsV,hav]
   generalize rws qC (avgL row)=Q at *
   simp[hrl,List.take_of_length_le]
  have hgo:((outC P i).set i (.own (A.length+(Ld.length+1)) 0 row.length 3 0)).map (SV.gv (A.length+(Ld.length+1)) 0 (rws qC (avgL row)) 1)=outC P (i+1):=by
   rw[List.map_set,hgv,<- hset]
   congr 1
   conv=>rhs; rw[←List.map_id (outC P i)]
   exact List.map_congr_left fun s hs=>gv_under (Nat.zero_le _) _ s ((SV.underL_iff ..).1 hun s hs)
  refine LI.cong (H':=A++⟨outC P (i+1),74,0,true⟩::(Ld++AO.dead ⟨rws qC (avgL row),78,0,true⟩::G)) ?_ ?_
  · rw[List.set_cons_succ,List.set_append_right _ _ (Nat.le_refl _),Nat.sub_self,List.set_cons_zero]
    rw[List.map_cons,List.map_append,List.map_cons]
    have ea:=fun k ver cs d=>AO.gv_cl (k:=k) (ver:=ver) (d:=d) (cs:=cs) (Nat.zero_le k) hL
    have eb:=fun k ver cs d=>AO.gv_cl (k:=k) (ver:=ver) (d:=d) (cs:=cs) (Nat.zero_le k) hG
    rw[ea,eb]
    simp only[AO.gv,hgo,AO.dead,List.map_nil]
  · refine ih (i+1) _ _ (by omega) ?_ ?_ ?_ ?_ ?_
    · refine hL.app (Cl.cons (by simp[AO.dead,SV.underL]) hG)
    all_goals rw[get_map _ (SV.gv _ _ _ _) (gv_any _ _ _ _)]
    all_goals simp[k7,k30,k31,w1]
end
end Go.Proofs.YtogjmpkehjfecaaGreatDoor.Rc
namespace Go.Proofs.YtogjmpkehjfecaaGreatDoor.Rc
open Go.Ab Go.Ab.Lm Go.Ab.Shr
section
variable {H:List AO} {g:Gm} {t:Tin}
theorem chk_rows (h:chkS g t=0):(t.A.length≤100000∧∀ l∈t.A,ShO l)∧t.P.length≤100000∧∀ l∈t.P,(1≤l.length∧l.length≤10)∧∀ x∈l,0≤x∧x≤70368744177664:=by
 obtain⟨hW,r0,r1,hA,hP⟩:=chk_zero h
 obtain⟨a1,a2⟩:=lst_zero hW hA
 obtain⟨p1,p2⟩:=lst_zero hW hP
 have hi:=hW.gd.i
 refine⟨⟨by omega,fun l hl => ?_⟩,by omega,fun l hl => ?_⟩
 · obtain⟨i,h1,rfl⟩:=List.getElem_of_mem hl
   obtain⟨c1,c2⟩:=a2 i (by omega)
   have e:t.A.getD i []=t.A[i]:=by simp[List.getD_eq_getElem?_getD,h1]
   unfold lenL at c1
   rw[e]at c1 c2
   obtain⟨n1,n2⟩:=acts_le hW (show i<g.is.length by omega)
   exact⟨by omega,by omega,c2⟩
 · obtain⟨i,h1,rfl⟩:=List.getElem_of_mem hl
   obtain⟨c1,c2⟩:=p2 i (by omega)
   have e:t.P.getD i []=t.P[i]:=by simp[List.getD_eq_getElem?_getD,h1]
   unfold lenL at c1
   rw[e]at c1 c2
   obtain⟨n1,n2⟩:=acts_le hW (show i<g.is.length by omega)
   exact⟨⟨by omega,by omega⟩,c2⟩
def avgR (g:Gm) (t:Tin):SV×Int:=if chkS g t≠0 then(nl,chkS g t)else(mixV (t.P.map avgL),0)
theorem outC_full (P:List (List Int)):outC P P.length=(P.map avgL).map ratsV:=by
 simp[outC,Function.comp_def]
theorem outC_zero (P:List (List Int)):outC P 0=List.replicate P.length nl:=by simp[outC]
theorem av_closed (hcl:closed H):closed (H++[gbox g,tB t]):=by
 rw[closed_iff]at hcl ⊢
 rw[List.length_append]
 refine Cl.app ?_ (Cl.cons ?_ (Cl.cons ?_ (Cl.nil _)))
 · intro o ho s hs
   exact SV.under_mono (by omega) s (hcl o ho s hs)
 · simp[gbox,Gm.cells,nds_under,infs_under]
 · simp[tB,Tin.cells,sls_under]
set_option maxRecDepth 10000 in
theorem ok12:Ok Tryz.prog 12 [.agg g.cells,.agg t.cells] H (.ret (.tup [(avgR g t).1,i64 (avgR g t).2])) H:=by
 refine ok_fn hm' Tryz.func12 c12 (by simp[Gm.cells,nds_under,infs_under,Tin.cells,sls_under]) fun hcl => ?_
 have h14:=fun H=>ok14 (H:=H) (g:=g) (t:=t)
 simp only[Gm.cells,Tin.cells]at h14
 simp -implicitDefEqProofs[i12,r12,Gm.cells,Tin.cells]
 refine call_go (h14 _) ?_
 by_cases hc:chkS g t=0
 · obtain⟨_,q1,q2⟩:=chk_rows hc
   have e:avgR g t=(mixV (t.P.map avgL),0):=by unfold avgR; rw[if_neg (by simpa using hc)]
   simp -implicitDefEqProofs[hc]
   repeat (refine⟨by omega,?_⟩)
   rw[←outC_zero]
   have hcl2:closed (H++[gbox g,tB t]):=av_closed hcl
   have ha:H.length+2=(H++[gbox g,tB t]).length:=by simp
   refine LI.cong (H':=(H++[gbox g,tB t])++⟨outC t.P 0,74,0,true⟩::[]) (by simp[gbox,tB,Gm.cells,Tin.cells]) ?_
   refine zlp12_0 hcl2 q2 q1 (fun env Ld g7 => ?_) t.P.length 0 _ [] (by simp) (Cl.nil _) ?_ ?_ ?_ ?_
   rotate_left
   all_goals try simp
   rw[outC_full,<- ha]at *
   rw[e,g7]
   refine cv_fz 3 hcl rfl ?_
   have hu:SV.underL H.length (List.map ratsV (List.map avgL t.P))=true:=by
    rw[SV.underL_iff]
    intro s hs
    obtain⟨l,_,rfl⟩:=List.mem_map.1 hs
    simp only[ratsV,SV.under]
    exact rws_under (qC_under _) _
   have hr:∀ L,(List.map ratsV (List.map avgL t.P)).map (SV.fz H.length [] L 1)=List.map ratsV (List.map avgL t.P):=fun L=>fz_mapU hu
   have hrl:(List.map ratsV (List.map avgL t.P)).length=t.P.length:=by simp
   rw[show mixV (List.map avgL t.P)=.slc (List.map ratsV (List.map avgL t.P)) t.P.length by simp[mixV]]
   generalize List.map ratsV (List.map avgL t.P)=Q at *
   simp[hr,hrl,List.take_of_length_le]
 · have e:avgR g t=(nl,chkS g t):=by unfold avgR; rw[if_pos hc]
   rw[e]
   simp -implicitDefEqProofs[hc]
   exact cv_fz 2 hcl rfl (by simp)
end
end Go.Proofs.YtogjmpkehjfecaaGreatDoor.Rc
namespace Go.Proofs.YtogjmpkehjfecaaGreatDoor.Rc
open Go.Ab Go.Ab.Lm Go.Ab.Shr
end Go.Proofs.YtogjmpkehjfecaaGreatDoor.Rc
namespace Go.Proofs.YtogjmpkehjfecaaGreatDoor.Rc
open Go.Ab Go.Ab.Lm
section
variable {H:List AO}
set_option maxRecDepth 10000 in
theorem zlp67_0 {l:List Nat} (hl:l.length<4611686018427387904) {N:Nat} {K:XE->Env->List AO->Prop} (hexit:∀ env,K (.exit 0) env H) :
 ∀ (n i:Nat) (env:Env),i+n=l.length->env.get 0=.slc (us l) l.length->env.get 1=.slc (us l) l.length->env.get 5=i64 i →
  LI Tryz.prog N drawB l67_0 env H K:=by
 intro n
 induction n with
 | zero =>
  intro i env hi h0 h1 h5
  refine li_go hm' l67_0.eq_1 ?_
  have e:i=l.length:=by omega
  subst e
  simp -implicitDefEqProofs[h0,h1,h5]
  exact hexit _
 | succ n ih =>
  intro i env hi h0 h1 h5
  refine li_go hm' l67_0.eq_1 ?_
  have hlt:i<l.length:=by omega
  simp -implicitDefEqProofs[h0,h1,h5,hlt,us_get hlt,us_at hlt,us_len]
  refine⟨by omega,rfl,?_⟩
  refine ih (i+1) _ (by omega) ?_ ?_ ?_
  · simp[h0]
  · simp[h1]
  · simp[wrap_suc (show i<9223372036854775807 by omega)]
theorem ok67s {l:List Nat} (hl:l.length<4611686018427387904):Ok Tryz.prog 67 [.slc (us l) l.length,.slc (us l) l.length] H (.ret (bl true)) H:=by
 refine ok_fn hm' Tryz.func67 c67 (by simp[us_under]) fun hcl => ?_
 simp -implicitDefEqProofs[i67,r67]
 refine zlp67_0 hl (fun env => ?_) l.length 0 _ (by omega) (by simp) (by simp) (by simp)
 simp -implicitDefEqProofs
 exact cv_id
def Qr.fit (q:Qr):Prop:=(lim q.n).length<4611686018427387904∧(lim q.d).length<4611686018427387904
theorem ok41s {q:Qr} (hq:q.fit):Ok Tryz.prog 41 [.agg (qC q),.agg (qC q)] H (.ret (bl true)) H:=by
 refine ok_fn hm' Tryz.func41 c41 (by simp[qC,nS_under]) fun hcl => ?_
 have h1:=fun H=>ok67s (H:=H) hq.1
 have h2:=fun H=>ok67s (H:=H) hq.2
 simp -implicitDefEqProofs[i41,r41,qC,nS]
 refine callq_st (fun _=>h1 _) ?_
 simp -implicitDefEqProofs
 refine callq_st (fun _=>h2 _) ?_
 simp -implicitDefEqProofs
 exact cv_fz 2 hcl rfl (by simp)
theorem rats_at {L:List (List Qr)} {i:Nat} (h:i<L.length):(L.map ratsV)[i]?.getD .any=ratsV L[i]:=by simp[h]
theorem rats_get {L:List (List Qr)} {i:Nat} (h:i<L.length) (h':i<(L.map ratsV).length):(L.map ratsV)[i]'h'=ratsV L[i]:=by simp
theorem qrow_at {l:List Qr} {k:Nat} (h:k<l.length):(rws qC l).drop (k*3)=bl l[k].neg::nS l[k].n::nS l[k].d::rws qC (l.drop (k+1)):=rws_at qC_len h
set_option maxRecDepth 10000 in
theorem zlp17_1 {L:List (List Qr)} {i0:Nat} (hi0:i0<L.length) (hL:L.length<4611686018427387904) (hl:L[i0].length<4611686018427387904) (hq:∀ q∈L[i0],q.fit) {N:Nat} {K:XE->Env->List AO->Prop}
 (hexit:∀ env,env.get 0=mixV L->env.get 1=mixV L->env.get 5=i64 i0->K (.exit 2) env H) :
 ∀ (n i:Nat) (env:Env),i+n=L[i0].length->env.get 0=mixV L->env.get 1=mixV L->env.get 5=i64 i0->env.get 6=i64 i →
  LI Tryz.prog N drawB l17_1 env H K:=by
 intro n
 induction n with
 | zero =>
  intro i env hi h0 h1 h5 h6
  refine li_go hm' l17_1.eq_1 ?_
  have e:i=L[i0].length:=by omega
  have e1:=rats_at hi0
  have e2:=rats_get hi0
  generalize L[i0]=row at *
  subst e
  simp -implicitDefEqProofs[h0,h1,h5,h6,mixV,hi0,e1,e2,ratsV]
  refine⟨by omega,hexit _ ?_ ?_ ?_⟩<;>simp[mixV]
 | succ n ih =>
  intro i env hi h0 h1 h5 h6
  refine li_go hm' l17_1.eq_1 ?_
  have hlt:i<L[i0].length:=by omega
  have hqi:=hq _ (List.getElem_mem hlt)
  have e1:=rats_at hi0
  have e2:=rats_get hi0
  generalize L[i0]=row at *
  have f1:=qrow_at hlt
  have f2:=rws_min qC_len hlt
  have f3:=rws_ge qC_len hlt
  have f4:=rws_le qC_len hlt
  have f5:=rws_len qC_len row
  have h41:=fun H=>ok41s (H:=H) hqi
  simp only[qC]at h41
  simp -implicitDefEqProofs[h0,h1,h5,h6,mixV,hi0,e1,e2,ratsV,hlt,f1,f2,f3,f5]
  refine⟨by omega,callq_st (fun _=>h41 _) ?_⟩
  simp -implicitDefEqProofs[h0,h1,h5,h6,mixV]
  refine ih (i+1) _ (by omega) ?_ ?_ ?_ ?_
  · simp[mixV]
  · simp[mixV]
  · simp
  · simp[wrap_suc (show i<9223372036854775807 by omega)]
set_option maxRecDepth 10000 in
theorem zlp17_0 {L:List (List Qr)} (hL:L.length<4611686018427387904) (hl:∀ l∈L,l.length<4611686018427387904∧∀ q∈l,q.fit) {N:Nat} {K:XE->Env->List AO->Prop}
 (hexit:∀ env,K (.exit 0) env H) :
 ∀ (n i:Nat) (env:Env),i+n=L.length->env.get 0=mixV L->env.get 1=mixV L->env.get 5=i64 i →
  LI Tryz.prog N drawB l17_0 env H K:=by
 intro n
 induction n with
 | zero =>
  intro i env hi h0 h1 h5
  refine li_go hm' l17_0.eq_1 ?_
  have e:i=L.length:=by omega
  subst e
  simp -implicitDefEqProofs[h0,h1,h5,mixV]
  exact hexit _
 | succ n ih =>
  intro i env hi h0 h1 h5
  refine li_go hm' l17_0.eq_1 ?_
  have hi0:i<L.length:=by omega
  obtain⟨hr1,hr2⟩:=hl _ (List.getElem_mem hi0)
  have e1:=rats_at hi0
  have e2:=rats_get hi0
  have h0':=h0
  have h1':=h1
  have key:=fun N K hx=>zlp17_1 (H:=H) (N:=N) (K:=K) hi0 hL hr1 hr2 hx L[i].length 0
  generalize L[i]=row at *
  simp only[mixV]at h0 h1
  simp -implicitDefEqProofs[h0,h1,h5,hi0,e1,e2,ratsV]
  repeat (refine⟨by omega,?_⟩)
  refine key _ _ (fun env k0 k1 k5 => ?_) _ (by omega) ?_ ?_ ?_ ?_
  rotate_left
  all_goals try simp[mixV]
  simp -implicitDefEqProofs[k0,k1,k5]
  refine ih (i+1) _ (by omega) ?_ ?_ ?_
  · simp[k0]
  · simp[k1]
  · simp[wrap_suc (show i<9223372036854775807 by omega)]
theorem mix_under (n:Nat) (L:List (List Qr)):(mixV L).under n=true:=by
 rw[mixV,SV.under,SV.underL_iff]
 intro s hs
 obtain⟨l,_,rfl⟩:=List.mem_map.1 hs
 simp only[ratsV,SV.under]
 exact rws_under (fun q=>by simp[qC,SV.underL,nS_under]) _
theorem ok17s {L:List (List Qr)} (hL:L.length<4611686018427387904) (hl:∀ l∈L,l.length<4611686018427387904∧∀ q∈l,q.fit):Ok Tryz.prog 17 [mixV L,mixV L] H (.ret (bl true)) H:=by
 refine ok_fn hm' Tryz.func17 c17 (by simp[mix_under]) fun hcl => ?_
 have e:mixV L=.slc (L.map ratsV) L.length:=rfl
 rw[e]
 simp -implicitDefEqProofs[i17,r17]
 rw[←e]
 refine zlp17_0 hL hl (fun env => ?_) L.length 0 _ (by omega) (by simp) (by simp) (by simp)
 simp -implicitDefEqProofs
 exact cv_id
end
end Go.Proofs.YtogjmpkehjfecaaGreatDoor.Rc
namespace Go.Proofs.YtogjmpkehjfecaaGreatDoor.Rc
open Go.Ab Go.Ab.Lm Go.Ab.Shr
end Go.Proofs.YtogjmpkehjfecaaGreatDoor.Rc
namespace Go.Proofs.YtogjmpkehjfecaaGreatDoor.Rc
open Go.Ab Go.Ab.Lm Go.Ab.Shr
section
variable {H:List AO} {g:Gm} {t:Tin}
def shrR (g:Gm) (t:Tin):SV×Int:=if chkS g t≠0 then(nl,chkS g t)else(.slc (sls (t.A.map shrI)) t.A.length,0)
theorem ok9':Ok Tryz.prog 9 [.agg g.cells,.agg t.cells] H (.ret (.tup [(shrR g t).1,i64 (shrR g t).2])) H:=by
 by_cases hc:chkS g t=0
 · obtain⟨hW,r0,r1,hA,hP⟩:=chk_zero hc
   obtain⟨⟨a1,a2⟩,_⟩:=chk_rows hc
   have la:=(lst_zero hW hA).1
   have h:=ok9 (H:=H) hW hc (chk_tin hc) a2
   have e:shrR g t=(.slc (sls (t.A.map shrI)) t.A.length,0):=by unfold shrR; rw[if_neg (by simpa using hc)]
   have e2:((List.range g.is.length).map fun j=>shrI (t.A.getD j []))=t.A.map shrI:=by
    apply List.ext_getElem (by simp[la])
    intro i h1 h2
    simp at h1 h2
    simp[h2]
   rw[e2]at h
   rw[e,la]
   exact h
 · have e:shrR g t=(nl,chkS g t):=by unfold shrR; rw[if_pos hc]
   rw[e]
   refine ok_fn hm' Tryz.func9 c9 (by simp[Gm.cells,nds_under,infs_under,Tin.cells,sls_under]) fun hcl => ?_
   have h14:=fun H=>ok14 (H:=H) (g:=g) (t:=t)
   simp only[Gm.cells,Tin.cells]at h14
   simp -implicitDefEqProofs[i9,r9,Gm.cells,Tin.cells]
   refine call_go (h14 _) ?_
   simp -implicitDefEqProofs[hc]
   exact cv_fz 2 hcl rfl (by simp)
end
end Go.Proofs.YtogjmpkehjfecaaGreatDoor.Rc
namespace Go.Proofs.YtogjmpkehjfecaaGreatDoor.Rc
open Go.Ab Go.Ab.Shr
section
variable {H:List AO} {g:Gm}
def keptA (n:Nat) (g:Gm) (s:TS):List AO:=[⟨[.own (n+1) 0 (g.acts 0) 1 0,.own (n+2) 0 (g.acts 1) 1 0,.own (n+3) 0 (g.acts 2) 1 0],45,0,true⟩,rowO 0 (s.A 0),rowO 0 (s.A 1),rowO 0 (s.A 2)]
def keptR (n:Nat) (s:TS):SV:=.agg [i64 s.rnd,i64 s.seed,.own n 0 3 1 0,.slc (sls [s.P 0,s.P 1,s.P 2]) 3]
theorem fin8k {t:Tin} (hcl:closed H) {s:TS} (hI:g.is.length=3) {G:List AO} {env:Env} (h:TW g (hb8 H g t) (cTC g) s G) (h6:env.get 6=rpt (H.length+2)) (h7:env.get 7=rpt (H.length+3)) :
 FinD Tryz.prog H.length r11 (fun o h=>o=.ret (.tup [keptR H.length s,i64 0])∧h=H++keptA H.length g s) 32 [rpt (H.length+2),rpt (H.length+3)] .ret env
  ((G.set (H.length+2) ⟨[i64 s.rnd,i64 s.seed,.own (pAo (hb8 H g t) g) 0 g.is.length 1 0,.own (pPo (hb8 H g t) g) 0 g.is.length 1 0],30,0,true⟩).set (H.length+3) (eT 0)):=by
 have g2:G[H.length+2]? = some ⟨[i64 0,i64 0,nl,nl],30,0,true⟩:=by rw[h.low _ (by simp),hb8_at]; rfl
 have g3:G[H.length+3]? = some ⟨[i64 0],31,0,true⟩:=by rw[h.low _ (by simp),hb8_at]; rfl
 have l2:=getElem?_lt g2
 have l3:=getElem?_lt g3
 refine⟨_,okD27n (by simpa using l2) (by simpa using l3),?_⟩
 rintro H4 rfl
 generalize hG2:(G.set (H.length+2) ⟨[i64 s.rnd,i64 s.seed,.own (pAo (hb8 H g t) g) 0 g.is.length 1 0,.own (pPo (hb8 H g t) g) 0 g.is.length 1 0],30,0,true⟩).set (H.length+3) (eT 0)=G2
 have e2:objCells G2 (H.length+2) 0=[i64 s.rnd,i64 s.seed,.own (pAo (hb8 H g t) g) 0 g.is.length 1 0,.own (pPo (hb8 H g t) g) 0 g.is.length 1 0]:=oc0 (T:=30) (by rw[←hG2,List.getElem?_set_ne (by omega),List.getElem?_set_self l2])
 have e3:objCells G2 (H.length+3) 0=[i64 0]:=oc0 (T:=31) (by rw[←hG2,List.getElem?_set_self (by simpa using l3)]; rfl)
 have up:∀ i,H.length+4≤i->G2[i]? = G[i]? := fun i hi=>by rw[←hG2,List.getElem?_set_ne (by omega),List.getElem?_set_ne (by omega)]
 have hL:G2=H++G2.drop H.length:=by
  apply List.ext_getElem?
  intro i
  by_cases hi:i<H.length
  · rw[List.getElem?_append_left hi,<- hG2,List.getElem?_set_ne (by omega),List.getElem?_set_ne (by omega),h.low i (by simp; omega),hb8_low hi]
  · rw[List.getElem?_append_right (by omega),List.getElem?_drop]
    congr 1; omega
 refine⟨?_,_,_,⟨rfl,rfl⟩,?_⟩
 · intro s hs
   simp only[r11,List.mem_cons,List.not_mem_nil,or_false]at hs
   rcases hs with rfl | rfl
   · simp[RS.side,h6,rpt,e2]
   · simp[RS.side,h7,rpt,e3]
 · have hr:resV env G2 r11=.tup [.agg [i64 s.rnd,i64 s.seed,.own (H.length+4) 0 3 1 0,.own (H.length+8) 0 3 1 0],i64 0]:=by
    simp[resV,r11,RS.ev,h6,h7,rpt,e2,e3,pAo,pPo,hI]
   rw[hr]
   have at':∀ k,(G2.drop H.length)[k+4]? = G[H.length+(k+4)]? := fun k=>by rw[List.getElem?_drop,up _ (by omega)]
   have h4:G[H.length+4]? = some ⟨[.own (H.length+5) 0 (g.acts 0) 1 1,.own (H.length+6) 0 (g.acts 1) 1 1,.own (H.length+7) 0 (g.acts 2) 1 1],45,0,true⟩:=by
    have:=h.ao
    simpa[pAo,hI,outs,pA,List.range_succ,Nat.add_assoc]using this
   have h8:G[H.length+8]? = some ⟨[.own (H.length+9) 0 (g.acts 0) 1 1,.own (H.length+10) 0 (g.acts 1) 1 1,.own (H.length+11) 0 (g.acts 2) 1 1],45,0,true⟩:=by
    have:=h.po
    simpa[pPo,hI,outs,pP,List.range_succ,Nat.add_assoc]using this
   have ha:=fun i hi=>h.a i hi
   have hp:=fun i hi=>h.p i hi
   have la:=fun i hi=>h.l.A i hi
   have lp:=fun i hi=>h.l.P i hi
   have a0:G[H.length+5]? = some ⟨ints (s.A 0),3,1,true⟩:=by have:=ha 0 (by omega); simpa[pA,Nat.add_assoc]using this
   have a1:G[H.length+6]? = some ⟨ints (s.A 1),3,1,true⟩:=by have:=ha 1 (by omega); simpa[pA,Nat.add_assoc]using this
   have a2:G[H.length+7]? = some ⟨ints (s.A 2),3,1,true⟩:=by have:=ha 2 (by omega); simpa[pA,Nat.add_assoc]using this
   have p0:G[H.length+9]? = some ⟨ints (s.P 0),3,1,true⟩:=by have:=hp 0 (by omega); simpa[pP,hI,Nat.add_assoc]using this
   have p1:G[H.length+10]? = some ⟨ints (s.P 1),3,1,true⟩:=by have:=hp 1 (by omega); simpa[pP,hI,Nat.add_assoc]using this
   have p2:G[H.length+11]? = some ⟨ints (s.P 2),3,1,true⟩:=by have:=hp 2 (by omega); simpa[pP,hI,Nat.add_assoc]using this
   have q0:=lp 0 (by omega)
   have q1:=lp 1 (by omega)
   have q2:=lp 2 (by omega)
   have k4:=at' 0
   have k5:=at' 1
   have k6:=at' 2
   have k7:=at' 3
   have k8:=at' 4
   have k9:=at' 5
   have k10:=at' 6
   have k11:=at' 7
   simp only[Nat.zero_add,Nat.reduceAdd]at k4 k5 k6 k7 k8 k9 k10 k11
   rw[h4]at k4
   rw[a0]at k5
   rw[a1]at k6
   rw[a2]at k7
   rw[h8]at k8
   rw[p0]at k9
   rw[p1]at k10
   rw[p2]at k11
   have t0:(ints (s.P 0)).take (g.acts 0)=ints (s.P 0):=List.take_of_length_le (by simp; omega)
   have t1:(ints (s.P 1)).take (g.acts 1)=ints (s.P 1):=List.take_of_length_le (by simp; omega)
   have t2:(ints (s.P 2)).take (g.acts 2)=ints (s.P 2):=List.take_of_length_le (by simp; omega)
   generalize G2.drop H.length=L at *
   rw[hL]
   refine cv_kp 6 [4,5,6,7] hcl rfl ?_ ?_ ?_
   · simp[keptR,placeOf,k4,k8,k9,k10,k11,sls,sl,q0,q1,q2,t0,t1,t2]
   · simp[keptOk,placeOf,k4,k5,k6,k7]
   · simp[keptO,keptA,placeOf,k4,k5,k6,k7,rowO]
theorem ok11k (t:Tin) (n:Int) (hc:chkS g t=0) (hI:g.is.length=3) (hb:¬ (n<0∨20000<n∨1000000<t.rnd+n)) {s:TS} (hs:rnds g n.toNat (s0T g t.rnd t.seed t.A t.P)=some s) :
 OkP Tryz.prog 11 [.agg g.cells,.agg t.cells,i64 n] H fun o h=>o=.ret (.tup [keptR H.length s,i64 0])∧h=H++keptA H.length g s:=by
 refine okP_ds hm Tryz.func11 c11 (by rfl) fun hcl => ?_
 have h16:=fun H=>ok14 (H:=H) (g:=g) (t:=t)
 simp only[Gm.cells,Tin.cells]at h16
 simp -implicitDefEqProofs[XL,i11p,i11a0,i11a1,i11a2,Gm.cells,Tin.cells]
 refine call_go (h16 _) ?_
 obtain⟨hW,r1,r2,r3,r4⟩:=chk_zero hc
 have b1:¬ n<0:=by omega
 have b2:¬ 20000<n:=by omega
 have b3:¬ 1000000<t.rnd+n:=by omega
 have w1:IntKind.i64.wrap (t.rnd+n)=t.rnd+n:=wrap_id (by omega) (by omega)
 obtain⟨a1,a2⟩:=lst_zero hW r3
 obtain⟨p1,p2⟩:=lst_zero hW r4
 have hil:=hW.gd.i
 have rw_ok:∀ (L:List (List Int)),L.length=g.is.length->(∀ i,i<g.is.length->lenL L i=g.acts i)->∀ l∈L,l≠[]∧l.length≤1000000:=fun L hL hl l hm=>by
  obtain⟨k,hk,rfl⟩:=List.getElem_of_mem hm
  have h1:=hl k (by omega)
  rw[lenL_at hk]at h1
  have h2:=acts_le hW (show k<g.is.length by omega)
  exact⟨fun e=>by rw[e]at h1; simp at h1; omega,by omega⟩
 have hA:=rw_ok t.A a1 fun i hi=>(a2 i hi).1
 have hP:=rw_ok t.P p1 fun i hi=>(p2 i hi).1
 simp -implicitDefEqProofs[hc,XL,FinE,r11,b1,b2,w1,b3,i11s,i11f,i11]
 refine⟨32,_,⟨rfl,rfl⟩,call_go (ok34 hA (by omega)) ?_⟩
 simp -implicitDefEqProofs
 refine call_go (ok34 hP (by omega)) ?_
 simp -implicitDefEqProofs[a1,p1]
 have h28:=ok33 (H:=hb8 H g t) (rnd:=t.rnd) (seed:=t.seed) hW (hb8_closed hcl) a1 p1 (fun i hi=>(a2 i hi).1) (fun i hi=>(p2 i hi).1)
 have q1:H.length+(g.is.length+1+1+1+1+1)=(hb8 H g t).length+1+g.is.length:=by simp; omega
 have q2:(fun i=>H.length+(g.is.length+1+1+1+1+1+1)+i)=fun i=>(hb8 H g t).length+1+t.A.length+1+i:=by funext i; simp; omega
 have q3:(fun i=>H.length+5+i)=fun i=>(hb8 H g t).length+1+i:=by funext i; simp
 have q4:H.length+4=(hb8 H g t).length:=by simp
 have hHeap:(H ++
 ⟨[i64 g.pl,.slc (nds g.ns) g.ns.length,.slc (infs g.is) g.is.length],26,0,true⟩ ::
  ⟨[i64 t.rnd,i64 t.seed,.slc (sls t.A) g.is.length,.slc (sls t.P) g.is.length],30,0,true⟩ ::
   ⟨[i64 0,i64 0,.val (.slice none 0 0),.val (.slice none 0 0)],30,0,true⟩ ::
    ⟨[i64 0],31,0,true⟩ ::
     ⟨outs g.is.length (fun i=>H.length+5+i) (lenL t.A) 1,45,0,true⟩ ::
      (List.map (rowO 1) t.A ++
       ⟨outs g.is.length (fun i=>H.length+(g.is.length+1+1+1+1+1+1)+i) (lenL t.P) 1,45,0,true⟩ ::
        List.map (rowO 1) t.P))=baseT (hb8 H g t) t.A t.P:=by
  rw[q2,q3]
  unfold baseT
  rw[a1,p1]
  simp only[hb8,gbox,zT,eT,Tin.cells,List.append_assoc,List.cons_append,List.nil_append,a1,p1]
 rw[hHeap,q1,q4]
 simp only[Gm.cells]at h28
 refine call_goP h28 fun out G1 hP => ?_
 obtain⟨rfl,h⟩:=hP
 have hgb:objCells G1 H.length 0=[i64 g.pl,.slc (nds g.ns) g.ns.length,.slc (infs g.is) g.is.length]:=oc0 (T:=26) (by rw[h.low _ (by simp)]; have:=hb8_at (H:=H) (g:=g) (t:=t) 0; rw[Nat.add_zero]at this; rw[this]; rfl)
 have htb:objCells G1 (H.length+1) 0=t.cells:=oc0 (T:=30) (by rw[h.low _ (by simp),hb8_at]; rfl)
 simp only[Tin.cells]at htb
 simp -implicitDefEqProofs[hgb,htb]
 have hnn:((n.toNat:Nat):Int)=n:=by omega
 refine tlp8_0 (nn:=n.toNat) hW (x6:=rpt (H.length+2)) (x7:=rpt (H.length+3)) (by omega) (fun hr env G s hG g6 g7 => ?_) (fun s' hr env G hG g6 g7 g9 => ?_) n.toNat 0 _ _ _ (by omega) (s0_ok hc) rfl h (by simp) (by simp) (by simp) (by simp[hnn]) (by simp)
 · rw[hs]at hr; cases hr
 · obtain rfl:s=s':=by rw[hs]at hr; exact Option.some.inj hr
   have hwc:=hG.cw0
   have k2:G[H.length+2]? = some ⟨[i64 0,i64 0,nl,nl],30,0,true⟩:=by rw[hG.low _ (by simp),hb8_at]; rfl
   have k3:G[H.length+3]? = some ⟨[i64 0],31,0,true⟩:=by rw[hG.low _ (by simp),hb8_at]; rfl
   have o2:=oc0 k2
   have s2:=setObj_some k2
   have k4:(G.set (H.length+2) ⟨[i64 s.rnd,i64 s.seed,.own (pAo (hb8 H g t) g) 0 g.is.length 1 0,.own (pPo (hb8 H g t) g) 0 g.is.length 1 0],30,0,true⟩)[H.length+3]? = some ⟨[i64 0],31,0,true⟩:=by rw[List.getElem?_set_ne (by omega)]; exact k3
   have o3:=oc0 k4
   have s3:=setObj_some k4
   simp -implicitDefEqProofs[g6,g7,g9,hwc,wHead,o2,s2,o3,s3]
   exact fin8k hcl hI hG (by simp[g6]) (by simp[g7])
theorem ok10k (t:Tin) (hc:chkS g t=0) (hI:g.is.length=3) (hb:t.rnd<1000000) {s:TS} (hs:rnds g 1 (s0T g t.rnd t.seed t.A t.P)=some s) :
 OkP Tryz.prog 10 [.agg g.cells,.agg t.cells] H fun o h=>o=.ret (.tup [keptR H.length s,i64 0])∧h=H++keptA H.length g s:=by
 refine okP_fn hm Tryz.func10 c10 (by simp[Gm.cells,nds_under,infs_under,Tin.cells,sls_under]) fun hcl => ?_
 obtain⟨hW,r1,r2,r3,r4⟩:=chk_zero hc
 have h8:=fun H=>ok11k (H:=H) t 1 hc hI (by omega) hs
 simp only[Gm.cells,Tin.cells]at h8
 simp -implicitDefEqProofs[i10,r10,Gm.cells,Tin.cells]
 refine call_goP (h8 _) ?_
 rintro o H' ⟨rfl,rfl⟩
 simp -implicitDefEqProofs[keptR,keptA,rowO,Nat.add_assoc]
 refine⟨_,_,⟨rfl,rfl⟩,?_⟩
 refine cv_kp 6 [3,4,5,6] hcl rfl ?_ ?_ ?_
 · simp[keptR,placeOf,fz_sls]
 · simp[keptOk,placeOf]
 · simp[keptO,keptA,placeOf,rowO]
end
end Go.Proofs.YtogjmpkehjfecaaGreatDoor.Rc
namespace Go.Proofs.YtogjmpkehjfecaaGreatDoor.Rc
open Go.Ab Go.Ab.Lm
section
variable {H:List AO} {g:Gm}
def evn (n:Nat):List Qr:=List.replicate n (ratQ 1 n)
theorem evn_take {n i:Nat} (h:i<n):(evn n).take i++[ratQ 1 n]=(evn n).take (i+1):=by
 simp[evn,List.take_replicate,Nat.min_eq_left (Nat.le_of_lt h),Nat.min_eq_left h,List.replicate_succ']
set_option maxRecDepth 10000 in
theorem zlp38_0 {n:Nat} (hn:n≤100000) {N:Nat} {K:XE->Env->List AO->Prop}
 (hexit:∀ env G,env.get 3=.own H.length 0 n 3 n->K (.exit 0) env (H++⟨rws qC (evn n),78,n,true⟩::G)) :
 ∀ (m i:Nat) (env:Env) (G:List AO),i+m=n->env.get 0=i64 n->env.get 3=.own H.length 0 i 3 i->env.get 4=i64 i →
  LI Tryz.prog N drawB l38_0 env (H++⟨rws qC ((evn n).take i),78,i,true⟩::G) K:=by
 intro m
 induction m with
 | zero =>
  intro i env G hi h0 h3 h4
  refine li_go hm' l38_0.eq_1 ?_
  have e:i=n:=by omega
  subst e
  have e2:(evn i).take i=evn i:=List.take_of_length_le (by simp[evn])
  rw[e2]
  simp -implicitDefEqProofs[h0,h4]
  exact hexit _ G (by simp[h3])
 | succ m ih =>
  intro i env G hi h0 h3 h4
  refine li_go hm' l38_0.eq_1 ?_
  have hil:i<n:=by omega
  have w1:=wrap_suc (show i<9223372036854775807 by omega)
  have h45:=fun H=>ok45 (H:=H) (x:=1) (y:=n) (by omega) (by omega) (by omega)
  simp only[ratS_eq]at h45
  have htl:(rws qC ((evn n).take i)).length=i*3:=by rw[rws_len qC_len]; simp[evn]; omega
  have hset:rws qC ((evn n).take i)++qC (ratQ 1 n)=rws qC ((evn n).take (i+1)):=by
   rw[←evn_take hil,rws_app]
   simp[rws]
  have hih:=ih (i+1)
  rw[←hset]at hih
  generalize rws qC ((evn n).take i)=R at *
  generalize ratQ 1 n=q at *
  simp only[qC,List.cons_append,List.nil_append]at h45 hih
  simp -implicitDefEqProofs[h0,h3,h4,hil]
  refine call_go (h45 _) ?_
  simp -implicitDefEqProofs[h0,h3,h4,htl]
  refine⟨⟨rfl,rfl⟩,by omega,by omega,?_⟩
  refine hih _ _ (by omega) ?_ ?_ ?_
  · simp
  · simp
  · simp[w1]
theorem ok38 {n:Nat} (hn:n≤100000):Ok Tryz.prog 38 [i64 n] H (.ret (ratsV (evn n))) H:=by
 refine ok_fn hm' Tryz.func38 c38 (by simp) fun hcl => ?_
 simp -implicitDefEqProofs[i38,r38]
 refine zlp38_0 hn (fun env G g3 => ?_) n 0 _ [] (by omega) (by simp) (by simp) (by simp)
 simp -implicitDefEqProofs[g3]
 refine cv_fz 3 hcl rfl ?_
 have hu:SV.underL H.length (rws qC (evn n))=true:=rws_under (qC_under _) _
 have hr:∀ L,(rws qC (evn n)).map (SV.fz H.length [] L 2)=rws qC (evn n):=fun L=>fz_mapU hu
 have hrl:(rws qC (evn n)).length=n*3:=by rw[rws_len qC_len]; simp[evn]
 have he:(evn n).length=n:=by simp[evn]
 simp only[ratsV,he]
 generalize rws qC (evn n)=Q at *
 simp[hr,hrl,List.take_of_length_le]
def uniL (g:Gm):List (List Qr):=g.is.map fun x=>evn x.2.toNat
def uniD (g:Gm) (i:Nat):List SV:=((uniL g).take i).map ratsV
set_option maxRecDepth 10000 in
theorem zlp13_0 (hn:g.is.length≤100000) (ha:∀ x∈g.is,0≤x.2∧x.2≤100000) {N:Nat} {K:XE->Env->List AO->Prop}
 (hexit:∀ env G,env.get 5=.own (H.length+1) 0 g.is.length 1 g.is.length->K (.exit 0) env (H++gbox g::⟨uniD g g.is.length,74,g.is.length,true⟩::G)) :
 ∀ (m i:Nat) (env:Env) (G:List AO),i+m=g.is.length->env.get 1=.ptr (.own H.length 0 0 0 0) 0->env.get 5=.own (H.length+1) 0 i 1 i->env.get 6=i64 i →
  LI Tryz.prog N drawB l13_0 env (H++gbox g::⟨uniD g i,74,i,true⟩::G) K:=by
 intro m
 induction m with
 | zero =>
  intro i env G hi h1 h5 h6
  refine li_go hm' l13_0.eq_1 ?_
  have e:i=g.is.length:=by omega
  subst e
  have he:=fun env h=>hexit env G h
  simp only[gbox,Gm.cells]at he
  simp -implicitDefEqProofs[h1,h5,h6,gbox,Gm.cells]
  exact he _ (by simp[h5])
 | succ m ih =>
  intro i env G hi h1 h5 h6
  refine li_go hm' l13_0.eq_1 ?_
  have hii:i<g.is.length:=by omega
  obtain⟨n0,n1⟩:=ha _ (List.getElem_mem hii)
  obtain⟨n,hn'⟩:∃ n:Nat,g.is[i].2=n:=⟨g.is[i].2.toNat,by omega⟩
  have w1:=wrap_suc (show i<9223372036854775807 by omega)
  have i2:(infs g.is)[i*2+1]?.getD .any=i64 g.is[i].2:=by
   rw[←List.getElem?_drop,infs_at hii]; rfl
  have i3:(infs g.is).length=2*g.is.length:=infs_len _
  have h38:=fun H=>ok38 (H:=H) (n:=n) (by omega)
  have hu:i<(uniL g).length:=by simp[uniL]; omega
  have hset:uniD g i++[ratsV (evn n)]=uniD g (i+1):=by
   simp only[uniD]
   rw[List.take_succ_eq_append_getElem hu,List.map_append]
   simp[uniL,hn']
  have hl:(uniD g i).length=i:=by simp[uniD,uniL]; omega
  have hih:=ih (i+1)
  simp only[gbox,Gm.cells]at hih
  rw[←hset]at hih
  have hcell:(ratsV (evn n)).isCell=true:=rfl
  have hvd:(ratsV (evn n)).vd=true:=rfl
  have hrv:ratsV (evn n)=.slc (rws qC (evn n)) (evn n).length:=rfl
  rw[hrv]at h38 hih
  generalize rws qC (evn n)=Q at *
  generalize (evn n).length=q at *
  simp -implicitDefEqProofs[h1,h5,h6,gbox,Gm.cells,hii,i2,i3,hn',w1]
  repeat (refine⟨by omega,?_⟩)
  refine call_go (h38 _) ?_
  simp -implicitDefEqProofs[h1,h5,h6,hl,w1]
  refine⟨by omega,by omega,?_⟩
  refine hih _ _ (by omega) ?_ ?_ ?_
  · simp
  · simp
  · simp
theorem ok13 (hf:g.formR=0) (hn:g.is.length≤100000) (ha:∀ x∈g.is,0≤x.2∧x.2≤100000):Ok Tryz.prog 13 [.agg g.cells] H (.ret (.tup [mixV (uniL g),i64 0])) H:=by
 refine ok_fn hm' Tryz.func13 c13 (by simp[Gm.cells,nds_under,infs_under]) fun hcl => ?_
 have h37:=fun H=>ok37 (H:=H) (g:=g)
 simp only[Gm.cells,hf]at h37
 simp -implicitDefEqProofs[i13,r13,Gm.cells]
 refine call_go (h37 _) ?_
 simp -implicitDefEqProofs
 refine zlp13_0 hn ha (fun env G g5 => ?_) g.is.length 0 _ [] (by omega) (by simp) (by simp) (by simp)
 simp -implicitDefEqProofs[g5]
 refine cv_fz 3 hcl rfl ?_
 have hl:(uniL g).length=g.is.length:=by simp[uniL]
 have e:uniD g g.is.length=(uniL g).map ratsV:=by simp only[uniD]; rw[List.take_of_length_le (by omega)]
 rw[e]
 have hu:SV.underL H.length ((uniL g).map ratsV)=true:=by
  rw[SV.underL_iff]
  intro s hs
  obtain⟨l,_,rfl⟩:=List.mem_map.1 hs
  simp only[ratsV,SV.under]
  exact rws_under (qC_under _) _
 have hr:∀ L,((uniL g).map ratsV).map (SV.fz H.length [] L 1)=(uniL g).map ratsV:=fun L=>fz_mapU hu
 have hrl:((uniL g).map ratsV).length=g.is.length:=by simp[uniL]
 rw[show mixV (uniL g)=.slc ((uniL g).map ratsV) g.is.length by simp[mixV,hl]]
 generalize (uniL g).map ratsV=Q at *
 simp[hr,hrl,List.take_of_length_le]
end
end Go.Proofs.YtogjmpkehjfecaaGreatDoor.Rc
namespace Go.Proofs.YtogjmpkehjfecaaGreatDoor.Rc
open Go.Ab Go.Ab.Lm Go.Ab.Shr
section
variable {H:List AO} {g:Gm} {t:Tin}
theorem new_small:(newR g).1.small:=by
 unfold newR
 by_cases hp:g.prpE=0
 · have hW:=prp_form hp
   rw[if_neg (by simpa using hp)]
   have hil:=hW.gd.i
   refine⟨⟨by simp; omega,fun l hl => ?_⟩,by simp; omega,fun l hl => ?_⟩
   all_goals
    simp only[List.mem_map,List.mem_range]at hl
    obtain⟨j,hj,rfl⟩:=hl
    have:=acts_le hW hj
    simp[zersA,zers]
    omega
 · rw[if_pos hp]; exact zero_small
theorem rat_fit {x y:Int} (hx : -9223372036854775808≤x∧x≤9223372036854775807) (hy : -9223372036854775808≤y∧y≤9223372036854775807):(ratQ x y).fit:=by
 have key:∀ n:Nat,n≤9223372036854775808->(lim n).length<4611686018427387904:=fun n hn=>by
  have:=lim_len_le (n:=n) (k:=3) (by
   have:B ^ 3=1000000000000000000000000000:=by decide
   omega)
  omega
 have h1:∀ a b:Nat,a / b≤a:=fun a b=>Nat.div_le_self _ _
 refine⟨key _ ?_,key _ ?_⟩
 · simp only[ratQ,low]
   have:=h1 x.natAbs (Nat.gcd x.natAbs y.natAbs)
   omega
 · simp only[ratQ,low]
   have:=h1 y.natAbs (Nat.gcd x.natAbs y.natAbs)
   omega
theorem avg_fit (h:chkS g t=0):(t.P.map avgL).length<4611686018427387904∧∀ l∈t.P.map avgL,l.length<4611686018427387904∧∀ q∈l,q.fit:=by
 obtain⟨_,q1,q2⟩:=chk_rows h
 refine⟨by simp; omega,fun l hl => ?_⟩
 obtain⟨r,hr,rfl⟩:=List.mem_map.1 hl
 obtain⟨⟨l1,l2⟩,l3⟩:=q2 r hr
 have hs:=sumI_rng l3
 refine⟨by simp[avgL]; omega,fun q hq => ?_⟩
 simp only[avgL,List.mem_map]at hq
 obtain⟨x,hx,rfl⟩:=hq
 have:=l3 x hx
 by_cases hz:sumI r=0
 · rw[if_pos hz]; exact rat_fit (by omega) (by omega)
 · rw[if_neg hz]; exact rat_fit (by omega) (by omega)
end
end Go.Proofs.YtogjmpkehjfecaaGreatDoor.Rc
namespace Go.Proofs.YtogjmpkehjfecaaGreatDoor.Rc
open Go.Ab Go.Ab.Lm Go.Ab.Shr
theorem ex_chk0:chkS exG exT0=0:=by kernel_rfl
def exS:TS:=rndT exG (cTC exG) (s0T exG exT0.rnd exT0.seed exT0.A exT0.P)
theorem ex_okB:okB exG exS=true:=by kernel_rfl
theorem ex_rnds:rnds exG 1 (s0T exG exT0.rnd exT0.seed exT0.A exT0.P)=some exS:=by
 have:=ex_okB
 simp only[exS]at this
 simp[rnds,this,exS]
theorem exS_rnd:exS.rnd=1:=by kernel_rfl
theorem exS_seed:exS.seed=0:=by kernel_rfl
theorem exS_A0:exS.A 0=[171,-171]:=by kernel_rfl
theorem exS_A1:exS.A 1=[341,-341]:=by kernel_rfl
theorem exS_A2:exS.A 2=[341,-1194,853]:=by kernel_rfl
theorem exS_P0:exS.P 0=[536870912,536870912]:=by kernel_rfl
theorem exS_P1:exS.P 1=[536870912,536870912]:=by kernel_rfl
theorem exS_P2:exS.P 2=[178962432,178954240,178954240]:=by kernel_rfl
theorem ex_shr0:exT0.A.map shrI=[[32768,32768],[32768,32768],[21846,21845,21845]]:=by kernel_rfl
theorem ex_run2:runR exG exT0 20001=(.zero,2):=by kernel_rfl
theorem ex_run0:runR exG exT0 0=(exT0,0):=by kernel_rfl
theorem ex_avg:exT0.P.map avgL=uniL exG:=by kernel_rfl
theorem ex_form:exG.formR=0:=by kernel_rfl
def exP:List (List Int):=[[536870912,536870912],[536870912,536870912],[178962432,178954240,178954240]]
theorem ex_c1:chkS exG ⟨1,-1,[[171,-171],[341,-341],[341,-1194,853]],exP⟩=2:=by kernel_rfl
theorem ex_c2:chkS exG ⟨1,2147483646,[[171,-171],[70368744177664,-341],[341,-1194,853]],exP⟩=0:=by kernel_rfl
theorem ex_c3:chkS exG ⟨1,2147483646,[[171,-171],[70368744177665,-341],[341,-1194,853]],exP⟩=2:=by kernel_rfl
theorem ex_c4:chkS exG .zero=3:=by kernel_rfl
section
variable {H:List AO}
theorem ex_avgR:avgR exG exT0=(mixV (uniL exG),0):=by
 unfold avgR
 rw[if_neg (by rw[ex_chk0]; simp),ex_avg]
theorem ex_shrR:shrR exG exT0=(.slc (sls [[32768,32768],[32768,32768],[21846,21845,21845]]) 3,0):=by
 unfold shrR
 rw[if_neg (by rw[ex_chk0]; simp),ex_shr0]
 rfl
theorem ex_kept (n:Nat):keptR n exS=.agg [i64 1,i64 0,.own n 0 3 1 0,.slc (sls exP) 3]:=by
 unfold keptR
 rw[exS_rnd,exS_seed,exS_P0,exS_P1,exS_P2]
 rfl
theorem ex_keptA (n:Nat):keptA n exG exS=[⟨[.own (n+1) 0 2 1 0,.own (n+2) 0 2 1 0,.own (n+3) 0 3 1 0],45,0,true⟩,rowO 0 [171,-171],rowO 0 [341,-341],rowO 0 [341,-1194,853]]:=by
 unfold keptA
 rw[exS_A0,exS_A1,exS_A2]
 rfl
set_option maxRecDepth 10000 in
theorem ok3:Ok Tryz.prog 3 [] H (.ret (bl true)) H:=by
 refine ok_fn hm' Tryz.func3 c3 (by simp) fun hcl => ?_
 have h8:=fun H=>ok8 (H:=H) (g:=exG)
 have h9:=fun H=>ok9' (H:=H) (g:=exG) (t:=exT0)
 have h10:=fun H=>ok10k (H:=H) (g:=exG) exT0 ex_chk0 rfl (by decide) ex_rnds
 have h112:=fun H=>ok11 (H:=H) (g:=exG) exT0 20001 (by omega)
 have h110:=fun H=>ok11 (H:=H) (g:=exG) exT0 0 (by omega)
 have h12:=fun H=>ok12 (H:=H) (g:=exG) (t:=exT0)
 have h13:=fun H=>ok13 (H:=H) (g:=exG) ex_form (by decide) (by decide)
 have h14:=fun H (t:Tin)=>ok14 (H:=H) (g:=exG) (t:=t)
 have h14a:=fun H=>h14 H exT0
 rw[ex_chk0]at h14a
 have h16:=fun H=>ok16 (H:=H) (T:=exT0) ⟨⟨by decide,by decide⟩,by decide,by decide⟩
 rw[ex_new]at h8
 rw[ex_shrR]at h9
 simp only[ex_kept,ex_keptA]at h10
 rw[ex_run2]at h112
 rw[ex_run0]at h110
 rw[ex_avgR]at h12
 obtain⟨gc,hgc⟩:∃ c,exG.cells=c:=⟨_,rfl⟩
 simp only[Tin.cells,hgc]at h8 h9 h10 h112 h110 h12 h13 h14 h14a h16
 have r0:exT0.rnd=0:=rfl
 have r1:exT0.seed=0:=rfl
 have r2:exT0.A.length=3:=rfl
 have r3':exT0.P.length=3:=rfl
 rw[r0,r1,r2,r3']at h8 h9 h10 h112 h110 h12 h14a h16
 obtain⟨LA,hLA⟩:∃ l,sls exT0.A=l:=⟨_,rfl⟩
 obtain⟨LP,hLP⟩:∃ l,sls exT0.P=l:=⟨_,rfl⟩
 have uLA:∀ n,SV.underL n LA=true:=fun n=>by rw[←hLA]; exact sls_under n _
 have uLP:∀ n,SV.underL n LP=true:=fun n=>by rw[←hLP]; exact sls_under n _
 rw[hLA,hLP]at h8 h9 h10 h112 h110 h12 h14a h16
 have h7:=fun H=>ok7 (H:=H)
 rw[hgc]at h7
 have hg3:∃ x y z,gc=[x,y,z]∧(x.isCell=true∧y.isCell=true∧z.isCell=true)∧(∀ n,SV.underL n [x,y,z]=true):=⟨_,_,_,by rw[←hgc]; rfl,⟨rfl,rfl,rfl⟩,fun n=>by simp[nds_under,infs_under]⟩
 obtain⟨x,y,z,rfl,⟨x1,y1,z1⟩,hun⟩:=hg3
 simp -implicitDefEqProofs[i3,r3]
 refine call_go ok6 ?_
 simp -implicitDefEqProofs
 refine call_go (h7 _) ?_
 simp -implicitDefEqProofs
 refine⟨⟨x1,y1,z1⟩,call_go (h8 _) ?_⟩
 simp -implicitDefEqProofs
 refine call_go (h9 _) ?_
 simp -implicitDefEqProofs
 refine call_goP (h10 _) ?_
 rintro o H' ⟨rfl,rfl⟩
 simp -implicitDefEqProofs[Nat.add_assoc]
 refine call_go (h112 _) ?_
 simp -implicitDefEqProofs
 refine call_go (h110 _) ?_
 simp -implicitDefEqProofs
 refine call_go (h12 _) ?_
 simp -implicitDefEqProofs
 refine call_go (h13 _) ?_
 simp -implicitDefEqProofs
 refine callq_st (fun _=>h14a _) ?_
 simp -implicitDefEqProofs
 have e1:∀ L:List AO,SV.fz 0 [] L 4 (.slc (sls [[32768,32768],[32768,32768],[21846,21845,21845]]) 3)=.slc (sls [[32768,32768],[32768,32768],[21846,21845,21845]]) 3:=fun L=>fz_under (by simp[sls_under])
 have e2:∀ L:List AO,SV.fz 0 [] L 4 (.slc (sls exP) 3)=.slc (sls exP) 3:=fun L=>fz_under (by simp[sls_under])
 have at':∀ (L:List AO) (k:Nat),(H++L)[H.length+k]? = L[k]? := fun L k=>by rw[List.getElem?_append_right (by omega)]; congr 1; omega
 refine callq_st (r:=bl true) (fun _=>Ok.fz 4 ?_) ?_
 · simp only[List.map_cons,List.map_nil,SV.strip,e1]
   rw[fz_three (l0:=[32768,32768]) (l1:=[32768,32768]) (l2:=[21846,21845,21845]) (by rw[at' _ 12]; rfl) (by rw[at' _ 9]; rfl) (by rw[at' _ 10]; rfl) (by rw[at' _ 11]; rfl)]
   exact ok15s (A:=[[32768,32768],[32768,32768],[21846,21845,21845]]) (by decide) (by decide)
 simp -implicitDefEqProofs
 refine callq_st (r:=bl true) (fun _=>Ok.fz 4 ?_) ?_
 · simp only[List.map_cons,List.map_nil,SV.strip,e2]
   rw[fz_three (l0:=[536870912,536870912]) (l1:=[536870912,536870912]) (l2:=[178962432,178954240,178954240]) (by rw[at' _ 16]; rfl) (by rw[at' _ 13]; rfl) (by rw[at' _ 14]; rfl) (by rw[at' _ 15]; rfl)]
   exact ok15s (A:=exP) (by decide) (by decide)
 simp -implicitDefEqProofs[rowO]
 have hcall:∀ (X:List AO) (sd:Int) (l0 l1 l2:List Int) (v:Int),X[H.length+2]? = some ⟨[.own (H.length+3) 0 l0.length 1 0,.own (H.length+4) 0 l1.length 1 0,.own (H.length+5) 0 l2.length 1 0],45,0,true⟩->X[H.length+3]? = some ⟨ints l0,3,0,true⟩->X[H.length+4]? = some ⟨ints l1,3,0,true⟩->X[H.length+5]? = some ⟨ints l2,3,0,true⟩->chkS exG ⟨1,sd,[l0,l1,l2],exP⟩=v →
  Ok Tryz.prog 14 [.agg [x,y,z],.agg [i64 1,i64 sd,.own (H.length+2) 0 3 1 0,.slc (sls exP) 3]] X (.ret (i64 v)) X:=by
  intro X sd l0 l1 l2 v k2 k3 k4 k5 hv
  refine Ok.fz 5 ?_
  have f1:SV.fz 0 [] X 5 (.agg [x,y,z])=.agg [x,y,z]:=fz_under (by simpa[SV.under]using hun 0)
  simp only[List.map_cons,List.map_nil,f1,fz_agg,fz_i64,Nat.reduceAdd,e2]
  rw[fz_three k2 k3 k4 k5]
  have:=h14 (X.map AO.dead) ⟨1,sd,[l0,l1,l2],exP⟩
  rw[hv]at this
  exact this
 refine call_go (hcall _ (-1) [171,-171] [341,-341] [341,-1194,853] 2 (by rw[at' _ 2]; rfl) (by rw[at' _ 3]; rfl) (by rw[at' _ 4]; rfl) (by rw[at' _ 5]; rfl) ex_c1) ?_
 simp -implicitDefEqProofs
 refine call_go (hcall _ 2147483646 [171,-171] [70368744177664,-341] [341,-1194,853] 0 (by rw[at' _ 2]; rfl) (by rw[at' _ 3]; rfl) (by rw[at' _ 4]; rfl) (by rw[at' _ 5]; rfl) ex_c2) ?_
 simp -implicitDefEqProofs
 refine callq_st (fun _=>h16 _) ?_
 simp -implicitDefEqProofs
 have h17:=fun H=>ok17s (H:=H) (L:=uniL exG) (show 3<4611686018427387904 by omega) (by
  intro l hl
  rw[←ex_avg]at hl
  exact(avg_fit ex_chk0).2 l hl)
 have hmx:mixV (uniL exG)=.slc ((uniL exG).map ratsV) 3:=rfl
 have hst:(mixV (uniL exG)).strip=mixV (uniL exG):=rfl
 refine callq_st (r:=bl true) (fun _=>by simpa[SV.strip,hst]using h17 _) ?_
 simp -implicitDefEqProofs
 refine callq_st (fun _=>hcall _ 2147483646 [171,-171] [70368744177665,-341] [341,-1194,853] 2 (by rw[at' _ 2]; rfl) (by rw[at' _ 3]; rfl) (by rw[at' _ 4]; rfl) (by rw[at' _ 5]; rfl) ex_c3) ?_
 simp -implicitDefEqProofs
 have h140:=fun H=>h14 H .zero
 rw[ex_c4]at h140
 refine callq_st (fun _=>Ok.le ?_ (h140 _)) ?_
 · exact leL.cons (SV.le.refl _) (leL.cons (le_agg (leL.cons (SV.le.refl _) (leL.cons (SV.le.refl _) (leL.cons le_nil (leL.cons le_nil leL.nil))))) leL.nil)
 simp -implicitDefEqProofs
 exact cv_fz 1 hcl rfl (by simp)
end
end Go.Proofs.YtogjmpkehjfecaaGreatDoor.Rc
namespace Go.Proofs.YtogjmpkehjfecaaGreatDoor
open Go.Ab Go.ChangeShapes Go.WideShapes Go.ChangeAt Go.RowKit
def laid3 : List (String × DataW Unit) := [("math/bits.deBruijn64tab", Rows.laid_math_bits_deBruijn64tab)]
theorem own:ownKnob Tryz.prog.godebug=none:=by kernel_rfl
theorem laidOut:laidOutB Tryz.prog=true:=by kernel_rfl
theorem gB : Tryz.prog.globalNamed "math/bits.deBruijn64tab" = some 0 := by kernel_rfl
theorem tB:(Tryz.prog.globals[0]?).map (·.type)=some 203:=by kernel_rfl
theorem uB:Tryz.prog.underlying 203=some (.array 64 5):=by kernel_rfl
theorem u5:Tryz.prog.underlying 5=some (.int .u8):=by kernel_rfl
theorem door_met (os:Os) (args:Array Value):laidMetH Tryz.prog laid3 ((World.doorLaid Tryz.prog 400 os).forCall (fun _ _=>0) ⟨#[],args,[]⟩).memory :=
 laidMet_of_run' 8 (by kernel_rfl) (by kernel_rfl)
theorem bytes_of {P:Program} {W:World} {base:Nat} {sp:Nat->Bool} {held:Bool} {fuel n:Nat} {t e:TypeId} {cs:List Value} {bs:List Int} {p:List MemPlace} {enc:TypeId×Value->Unit} (ht:P.underlying t=some (.array n e)) (he:P.underlying e=some (.int .u8)) (hc:P.cellsOf e=1) (hct:P.cellsOf t=n)
 (h:DataW.trod enc P W base sp held fuel t cs=some (.agg (bs.map fun b=>.lit (.int .u8 b)),p)):cs=bs.map (Value.int .u8):=by
 obtain⟨xs,m,rfl,hx,hlen,hn,hel⟩:=DataW.trod_array ht h
 simp only[Prod.mk.injEq,DataW.agg.injEq]at hx
 have hbl:bs.length=n:=by have:=congrArg List.length hx.1; simp at this; omega
 rw[hct]at hlen
 refine List.ext_getElem (by simp; omega) fun i h1 h2 => ?_
 have hi:i<n:=by omega
 have h3:=hel i hi
 have hxi:i<xs.length:=by omega
 rw[List.getElem?_eq_getElem hxi,hc,Nat.mul_one]at h3
 obtain⟨b,e1,e2,_⟩:=DataW.trod_int he h3
 have e3:cs[i]=.int .u8 b:=by
  rw[List.drop_eq_getElem_cons h1,List.take_succ_cons,List.take_zero]at e1
  exact(List.cons.inj e1).1
 have hbi:i<bs.length:=by omega
 have e4:(bs.map fun b=>(DataW.lit (.int .u8 b):DataW Unit))[i]'(by simpa using hbi)=(xs.map (·.1))[i]'(by simpa using hxi):=by
  simp only[hx.1]
 simp only[List.getElem_map,e2]at e4
 have:bs[i]=b:=by simpa using e4
 rw[e3,List.getElem_map,this]
theorem gl_of {W:World} (h:laidMetH Tryz.prog laid3 W):(st0 W).GL:=by
 have h' : laidMet Tryz.prog [("math/bits.deBruijn64tab", Rows.laid_math_bits_deBruijn64tab)] W := h
 obtain⟨ps,⟨g0,t0,cs0,f0,p0,q0,hg0,ht0,hv0,hd0,_,_⟩,_⟩:=h'
 obtain rfl:=Option.some.inj (gB.symm.trans hg0)
 obtain rfl:=Option.some.inj (tB.symm.trans ht0)
 have b0:cs0.toList=brujL.map (Value.int .u8):=bytes_of (bs:=brujL) uB u5 (by kernel_rfl) (by kernel_rfl) hd0
 have shp:∀ (g:Nat) (nm:String) (cs:Array Value) (us:List Value),Tryz.prog.globalNamed nm=some g->W.var? Tryz.prog nm=some cs->cs.toList=us->∃ T,(st0 W).w.shape? g=some (T,us.length):=by
  intro g nm cs us h1 h2 h3
  simp only[World.var?,h1,Option.bind_some]at h2
  split at h2
  · rename_i cs' T f hh
    cases h2
    refine⟨T,?_⟩
    show W.shape? g=_
    unfold World.shape?
    rw[hh,<- h3]
    simp
  · cases h2
 have key:∀ (g:Nat) (nm:String) (cs:Array Value) (us:List Value),Tryz.prog.globalNamed nm=some g->W.var? Tryz.prog nm=some cs->cs.toList=us->us.all isNumV=true->(st0 W).Imm ⟨g,0,none⟩ us:=by
  intro g nm cs us h1 h2 h3 h4
  refine⟨fun j u hj => ?_,fun _=>rw0 W _,fun _ _=>.inr h4⟩
  have:=World.var?_cell h1 h2 j
  have e:((⟨g,0,none⟩:Addr).add j)=⟨g,j,none⟩:=by unfold Addr.add; split<;>simp_all
  rw[e]
  show W.cell? _=_
  rw[this,<- Array.getElem?_toList,h3]; exact hj
 intro g us hg
 match g,hg with
 | 0,hg=>cases hg; exact⟨key 0 _ _ _ gB hv0 b0 (by decide),shp 0 _ _ _ gB hv0 b0⟩
end Go.Proofs.YtogjmpkehjfecaaGreatDoor
