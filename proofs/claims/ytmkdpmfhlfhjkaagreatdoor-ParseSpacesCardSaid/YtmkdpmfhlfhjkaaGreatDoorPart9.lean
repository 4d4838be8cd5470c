/- Steps of the proof. -/
import Derived.Test.YtmkdpmfhlfhjkaaGreatDoorPart7
import Derived.Test.YtmkdpmfhlfhjkaaGreatDoorPKu
import Derived.Test.YtmkdpmfhlfhjkaaGreatDoorPart8
set_option linter.all false
namespace Go.Proofs.YtmkdpmfhlfhjkaaGreatDoor
open Go.Ab
theorem QnZ {l:ZE} (h:(QG l).2.1=0):(QG l).2=(0,0):=by
 unfold QG at h ⊢;by_cases hs:(Qi l).2.1≠0
 . rw[Zo hs]at h; exact absurd h hs
 . rw[Zn hs]at h ⊢;unfold QbU at h ⊢;simp only at h ⊢;split at h
   . rename_i he; exact absurd h he
   . rename_i he; rw[Zn he]
theorem QuP:WOk Qcz 2 0:=by
 have hs:∀ l:List Ex,Qau l=(l.map Qcz).sum+1:=by
  intro l
  induction l with
  |nil=>rfl
  |cons x r ih=>unfold Qau; rw[ih]; simp; omega
 refine⟨by decide,λnm p => ?_,λn p => ?_,λop l p _ => ?_⟩
 . show Qau []<=_; rw[Qau]; omega
 . show Qau []<=_; rw[Qau]; omega
 . show Qau l<=_; rw[hs]; omega
theorem QoH {α:Type} {f:α->Nat} {k:Nat}:∀ {l:List α},(∀ x∈l,f x<=k)->(l.map f).sum<=k*l.length
 |[],_=>by simp
 |x::r,h=>by
  have h1:=h x (by simp);have h2:=QoH λy hy=>h y (VL x hy);simp only[Vg,VO,Vh,Nat.mul_add,Nat.mul_one];omega
theorem QxC (l:ZE):Qcz (QO l).1<=1000000:=by
 have h1:=Qwm QuP l;have h2:=QoH (f:=λt:Tok=>2*2+0*t.tx.length) (k:=4) (l:=(Qi l).1) λt ht=>by simp
 have h3:=Qnw l;have h4:4*(Qi l).1.length<=4*20000:=Nat.mul_le_mul_left _ h3;omega
theorem QA3 {l:ZE} (h:(QO l).2.1=0):(QO l).2=(0,0):=by
 unfold QO at h ⊢;by_cases hs:(Qi l).2.1≠0
 . rw[Zo hs]at h; exact absurd h hs
 . rw[Zn hs]at h ⊢;unfold QbL at h ⊢;simp only at h ⊢;generalize (if(orT ⟨(Qi l).1,l.length⟩ ⟨0,0,0,0⟩).2.a<(Qi l).1.length then Qg ⟨(Qi l).1,l.length⟩ 11 (orT ⟨(Qi l).1,l.length⟩ ⟨0,0,0,0⟩).2 else(orT ⟨(Qi l).1,l.length⟩ ⟨0,0,0,0⟩).2)=r at h ⊢;by_cases he:r.e≠0
   . rw[Zo he]at h; exact absurd h he
   . rw[Zn he]
theorem QCh (l:List Int):∃ l0,Qbi (Qa4 l)=l0++[10]:=by
 have:∀ A:ZE,∃ l0,A++[59,32,125,10]=l0++[10]:=λA=>⟨A++[59,32,125],by simp⟩;unfold Qbi;exact this _
section
variable {H:ZG}
set_option maxRecDepth 8000 in
set_option maxHeartbeats 4000000 in
theorem law9 (l:List Int) (tx:ZE):Ok Tryz.prog 9 [.slc (QM l) l.length,st (B tx)] H (.ret (bl true)) H:=by
 refine Qz hm Tryz.func9 c9 (by simp[SV.under,Qm4]) λhcl => ?_;have h5:=λH=>Quy (H:=H);simp -implicitDefEqProofs[i9,r9];refine Qc (h5 _) ?_;by_cases hl:100<l.length
 . have hl':(100:Int)<l.length:=by omega
   simp -implicitDefEqProofs[hl,hl'];exact Qj
 have hl':¬ (100:Int)<l.length:=by omega
 by_cases ht:300<tx.length
 . have ht':(300:Int)<tx.length:=by omega
   simp -implicitDefEqProofs[hl,hl',ht,ht'];exact Qj
 have ht':¬ (300:Int)<tx.length:=by omega
 have h25:=λH=>ok25 (H:=H) (l:=l) (by omega);have hw:=Qn2 l;obtain⟨g1,g2⟩:=Qvr l;have g5:=Qtu l;have g6:=QpZ l;have g8:=Qz9 hw;have hsz:(Qi (Qbi (Qa4 l))).1.length<=5000:=by
  have:=Qih g6.2;have:=Qks hw;omega
 have hs1:(Qi (Qbi (Qa4 l))).2=(0,0):=by
  have:=(QlU (Qjz hw) (by rw[Qgh hw]; omega) (Qks hw)).2;rw[Qgh hw]at this; exact this
 have hst:=QwF (Qjz hw) (by rw[Qgh hw]; exact g5) (Qks hw) (by rw[Qgh hw]; exact g1);rw[Qgh hw]at hst;obtain⟨hbt,p,hp,p1,p2,p3⟩:=hst;obtain⟨l0,hl0⟩:=QCh l;have ha:=Qxt (l0:=l0) (by rw[<-hl0]; omega) (by rw[<-hl0]; exact hs1) (by rw[<-hl0]; exact hsz) (by rw[<-hl0]; exact g1);rw[<-hl0]at ha;obtain⟨a0,a1,a2⟩:=ha;have hp1:(Qbi (Qa4 l)).length<=20000:=by omega
 have h30:=λH=>ok30 (H:=H) (l:=Qbi (Qa4 l)) (by omega) hbt;rw[hp]at h30;have h14:=λH=>QgW (H:=H) (l:=Qbi (Qa4 l)) hp1;have h14p:=λH=>QgW (H:=H) (l:=p) p1;have h14a:=λH=>QgW (H:=H) (l:=frT++Qbi (Qa4 l)++bkT) a0;rw[QnZ g1]at h14;rw[QnZ p2]at h14p;rw[QnZ a1]at h14a;have hR:QC.prp (QG (Qbi (Qa4 l))).1:=QC.prp_er g2 g8;have k23p:=λH=>ok23 (H:=H) p3.symm hR;have k23a:=λH=>ok23 (H:=H) a2.symm hR;generalize hT:Qbi (Qa4 l)=T at *;generalize (QG T).1=R at *;generalize (QG p).1=Q at *;generalize hA:frT++T++bkT=TA at *;generalize (QG TA).1=Z at *;have hB:35::32::97::32::103::97::109::101::10::9::(T++[32,35,32,97,110,100,32,105,116,115,32,101,110,100])=TA:=by rw[<-hA]; simp[frT,bkT]
 have hck:=Zv (Qey R);have c1:=Qei R;have c2:=Qex R;have c3:=QhF R;have hckq:=Zv (Qey Q);have c1q:=Qei Q;have c2q:=Qex Q;have c3q:=QhF Q;have hckz:=Zv (Qey Z);have c1z:=Qei Z;have c2z:=Qex Z;have c3z:=QhF Z;have h11:=λH=>Qhg (H:=H) (l:=tx) (by omega);have hpe:=λh0=>QuO (l:=tx) (by omega) h0;have hP:[40]++tx++[10,41]=40::(tx++[10,41]):=by simp
 rw[hP]at hpe;have h11p:=λH=>Qhg (H:=H) (l:=40::(tx++[10,41])) (by simp; omega);have hsm:=QuG tx;have hcs:=QxC tx;have hez:=λh=>QA3 (l:=tx) h;generalize QO tx=X at *;generalize QO (40::(tx++[10,41]))=Y at *;obtain⟨x,e,q⟩:=X;obtain⟨y,e',q'⟩:=Y;simp only at hpe hsm hcs hez h11 h11p;simp -implicitDefEqProofs[hl,hl',ht,ht'];refine Qc (h25 _) ?_;simp -implicitDefEqProofs;refine Qc (h30 _) ?_;simp -implicitDefEqProofs[QiA,QE];refine Qc (h14 _) ?_;simp -implicitDefEqProofs[QbG,QE,c1,c2,c3,hck];refine Qc (h14p _) ?_;simp -implicitDefEqProofs[QbG,QE,c1q,c2q,c3q,hckq];refine⟨by omega,by omega,?_⟩;rw[hB];refine Qc (h14a _) ?_;simp -implicitDefEqProofs[QbG,QE,c1,c2,c3,hck,c1q,c2q,c3q,hckq,c1z,c2z,c3z,hckz];refine QZ (r:=bl true) (λ_=>by simpa[SV.strip]using k23p _) ?_;simp -implicitDefEqProofs[c1,c2,c3,hck,c1q,c2q,c3q,hckq,c1z,c2z,c3z,hckz];refine QZ (r:=bl true) (λ_=>by simpa[SV.strip]using k23a _) ?_;simp -implicitDefEqProofs;refine Qc (h11 _) ?_;have k29:e=0->y.er=x.er->∀ H,Ok Tryz.prog 29 [.agg x.c,.agg y.c] H (.ret (bl true)) H:=λ_ he H=>ok29 he.symm hsm (by omega);have x1:=Ex.c_len x;have x2:x.c.take 5=x.c:=by rw[<-x1,VI]
 have x3:x.c.drop 5=[]:=VS (by omega);have x4:=Zv (Ex.okc x);have y1:=Ex.c_len y;have y2:y.c.take 5=y.c:=by rw[<-y1,VI]
 have y3:y.c.drop 5=[]:=VS (by omega);have y4:=Zv (Ex.okc y);simp only[Ex.v]at h11p ⊢;generalize x.c=xc at *;generalize y.c=yc at *;simp -implicitDefEqProofs[QE,x1,x2,x3,x4];refine⟨by omega,by omega,?_⟩;refine Qc (h11p _) ?_;simp -implicitDefEqProofs[QE,x1,x2,x3,x4,y1,y2,y3,y4];by_cases he:e=0
 . obtain⟨rfl,rfl⟩:=Prod.mk.inj (hez he);rcases hpe rfl with h|⟨h,h2⟩
   . subst h;simp -implicitDefEqProofs;exact Qq 3 hcl rfl (by simp)
   . obtain⟨rfl,rfl⟩:=Prod.mk.inj h;simp -implicitDefEqProofs[x1,x2,x3,x4,y1,y2,y3,y4];refine QZ (r:=bl true) (λ_=>k29 rfl h2 _) ?_;simp -implicitDefEqProofs;exact Qq 3 hcl rfl (by simp)
 . simp -implicitDefEqProofs[he];exact Qq 3 hcl rfl (by simp)
end
end Go.Proofs.YtmkdpmfhlfhjkaaGreatDoor
namespace Go.Proofs.YtmkdpmfhlfhjkaaGreatDoor
open Go Go.Ab
theorem QvK {d:Dt} {t e:ZK} (ht:Tryz.prog.underlying t=some (.slice e)) (he:Tryz.prog.underlying e=some (.int .i64)) (h:d.ty Tryz.prog t):∃ l:List Int,d.sv=.slc (QM l) l.length:=by
 cases d with
 |sl zs =>
  simp only[Dt.ty,ht,Option.some.injEq,TypeDesc.slice.injEq]at h;obtain⟨e',rfl,_,k3⟩:=h;obtain⟨l,z1,z2⟩:=QmU he zs k3;exact⟨l,by show [SV.slc (Dt.cellsL zs) zs.length].headD SV.any=_; rw[z1,z2]; rfl⟩
 |int k n=>simp[Dt.ty,ht]at h
 |bool b=>simp[Dt.ty,ht]at h
 |str s=>simp[Dt.ty,ht]at h
 |agg l=>simp[Dt.ty,ht]at h
theorem QBp {d:Dt} (h:d.ty Tryz.prog 9):∃ l:ZE,d.sv=st (B l):=by
 obtain⟨s,rfl,_⟩:=Qz3 h;exact⟨s.data.toList,Zp Ab.st (QlV s)⟩
theorem law9d:∀ dts,Dt.tyL Tryz.prog dts Tryz.f9.params.toList->Ok Tryz.prog 9 (dts.map Dt.sv) [] (.ret (bl true)) []:=by
 have hp:Tryz.f9.params.toList=[46,9]:=by kernel_rfl
 have u46:Tryz.prog.underlying 46=some (.slice 3):=by kernel_rfl
 have u3:Tryz.prog.underlying 3=some (.int .i64):=by kernel_rfl
 rw[hp];intro dts h
 match dts,h with
 |[d1,d2],h =>
  obtain⟨h1,h2,_⟩:=h;obtain⟨l,e1⟩:=QvK u46 u3 h1;obtain⟨s,e2⟩:=QBp h2;simp only[Vg,VF,e1,e2];exact law9 l s
end Go.Proofs.YtmkdpmfhlfhjkaaGreatDoor
