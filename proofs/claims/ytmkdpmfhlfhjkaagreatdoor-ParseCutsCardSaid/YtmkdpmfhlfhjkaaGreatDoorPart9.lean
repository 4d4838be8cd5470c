/- Steps of the proof. -/
import Derived.Test.YtmkdpmfhlfhjkaaGreatDoorPart7
import Derived.Test.YtmkdpmfhlfhjkaaGreatDoorPKu
import Derived.Test.YtmkdpmfhlfhjkaaGreatDoorPart8
set_option linter.all false
namespace Go.Proofs.YtmkdpmfhlfhjkaaGreatDoor
open Go.Ab
theorem Qum {ts:List Tok} {i:Nat} (h:i<ts.length):((ts.flatMap Tok.c).drop (i*4)).take 4=ts[i].c:=by
 have hf:∀ l:List Tok,l.flatMap Tok.c=rws Tok.c l:=by
  intro l
  induction l with
  |nil=>rfl
  |cons t r ih=>rw[VO,ih,rws]
 rw[hf,QdR (f:=Tok.c) (sz:=4) (λt=>rfl) h];exact VG rfl
theorem Qqe {l:ZE} (h:(QJ l).2.1=0):(QJ l).2=(0,0):=by
 unfold QJ at h ⊢;by_cases hs:(Qv l).2.1≠0
 . rw[Zn hs]at h; exact absurd h hs
 . rw[Zm hs]at h ⊢;unfold QbL at h ⊢;simp only at h ⊢;split at h
   . rename_i he; exact absurd h he
   . rename_i he; rw[Zm he]
section
variable {H:ZG}
set_option maxRecDepth 8000 in
set_option maxHeartbeats 2000000 in
theorem law7 (l:List Int) (at_:Int) (h1 : -9223372036854775808<=at_) (h2:at_<=9223372036854775807):Ok Tryz.prog 7 [.slc (QE l) l.length,i64 at_] H (.ret (bl true)) H:=by
 refine Qz hm Tryz.func7 c7 (by simp[SV.under,Qlt]) λhcl => ?_;have h5:=λH=>QtA (H:=H);by_cases hl:100<l.length
 . have hl':(100:Int)<l.length:=by omega
   simp -implicitDefEqProofs[i7,r7];refine Qc (h5 _) ?_;simp -implicitDefEqProofs[hl,hl'];exact Qi
 have hl':¬ (100:Int)<l.length:=by omega
 have h25:=λH=>ok25 (H:=H) (l:=l) (by omega);have hw:=QlY l;obtain⟨g1,g2⟩:=Qxr l;have g3:=Qnq hw;have g4:=QoK hw;have g5:=Qsn l;have g6:=(QmT l).1;have g7:=(QmT l).2;have g8:=QAn hw;rw[<-QlE hw]at *;have hpos:0<(tks (QdT (QbG l))).length:=by
  generalize QbG l=g;simp[QdT,tks,Qar]
 generalize QdT (QbG l)=ps at *;have hcut:=λi hi=>Qzz (ps:=ps) g3 g5 g4 g1 (i:=i) hi;have h14:=λH=>QiG (H:=H) (l:=txt ps) g5;have h26:=λH=>Qmw (H:=H) (l:=txt ps) (by omega);have hn:(Qv (txt ps)).1.length=(tks ps).length:=QhM g7;have hsc:(Qv (txt ps)).2=(0,0):=(QmQ g3 g5 g4).2;have hpz:=Qqe g1;rw[hsc]at h26;rw[hpz]at h14;have hpl:0<(Qv (txt ps)).1.length:=by omega
 have hml:(Qv (txt ps)).1.length<=5000:=by omega
 have hi:(at_ % ((Qv (txt ps)).1.length:Int)).toNat<(Qv (txt ps)).1.length:=by
  have a1:=YJ at_ (show((Qv (txt ps)).1.length:Int)≠0 by omega);have a2:=Zl at_ (show 0<((Qv (txt ps)).1.length:Int)by omega);omega
 have h27:=λH=>ok27 (H:=H) at_ ((Qv (txt ps)).1.length:Int) (by omega) (by omega);have hii:at_ % ((Qv (txt ps)).1.length:Int)=((at_ % ((Qv (txt ps)).1.length:Int)).toNat:Int):=by
  have a1:=YJ at_ (show((Qv (txt ps)).1.length:Int)≠0 by omega);omega
 rw[hii]at h27;generalize (at_ % ((Qv (txt ps)).1.length:Int)).toNat=i at *;obtain⟨hle,hcut⟩:=hcut i hi;have htok:=Qum hi;generalize hts:(Qv (txt ps)).1=ts at *;generalize hR:(QJ (txt ps)).1=R at *;simp -implicitDefEqProofs[i7,r7];refine Qc (h5 _) ?_;simp -implicitDefEqProofs[hl,hl'];refine Qc (h25 _) ?_;simp -implicitDefEqProofs[hl,hl'];refine Qc (h26 _) ?_;simp -implicitDefEqProofs[Qbc,QK];refine Qc (h14 _) ?_;have hck:=Zw (QeN R);have c1:=QeC R;have c2:=Qe0 R;have c3:=Qky R;simp -implicitDefEqProofs[Qby,QK,c1,c2,c3,hck,show ¬ ts.length=0 by omega];refine Qc (h27 _) ?_;generalize ts[i]=t at *;obtain⟨tk,tx,tn,tp⟩:=t;have hi':(i:Int)<ts.length:=by omega
 have hT:(txt ps).length<=20000:=g5;simp only at hle hcut;generalize he:tp+tx.length=e at *;have hadd:(tp:Int)+(tx.length:Int)=(e:Int):=by omega
 have w1:IntKind.i64.wrap (e:Int)=(e:Int):=QeU (by omega);have n1:¬ (e:Int)<0:=by omega
 have n2:¬ ((txt ps).length:Int)<(e:Int):=by omega
 have h14':=λH=>QiG (H:=H) (l:=(txt ps).take e) (by rw[VY]; omega);simp -implicitDefEqProofs[hi,hi',htok,QhZ,Tok.c,hadd,w1,n1,n2];refine⟨by omega,by omega,Qc (h14' _) ?_⟩;generalize hQ:(QJ ((txt ps).take e)).1=Q at *;have hck':=Zw (QeN Q);have c1':=QeC Q;have c2':=Qe0 Q;have c3':=Qky Q;rcases hcut with ⟨m1,m2,jj,m3,m4,m5⟩|m1
 . have hz:=Qqe m1;rw[hz];clear c1 c2 c3 hck c1' c2' c3' hck' hR hQ;obtain⟨qn,qp,qv,qs⟩:=Q;obtain⟨rn,rp',rv,rs⟩:=R;have hqs:qs.length=jj:=by
    simp only[Qx.er,Qx.mk.injEq]at m5;have:=Zp List.length m5.2.2.2;simp only[Yf,VY]at this;simp only at m4;omega
   simp only at m4;have hrl:(rws Qb.c rs).length=rs.length*12:=QaI Qb.c_len rs;simp -implicitDefEqProofs[Qby,QK,Qx.c,hqs,show ¬ (jj:Int)<1 by omega,show ¬ rs.length<jj by omega,show(1:Int)<=jj by omega,show jj<=rs.length by omega];rw[Zm (by rintro⟨z1,z2⟩; rcases m2 with m2|m2; exact z1 m2; exact z2 m2)];have hRp:Qx.prp ⟨rn,rp',rv,rs⟩:=Qx.prp_er g2 g8;have hmin:min jj rs.length=jj:=by omega
   have hRt:Qx.prp ⟨rn,rp',rv,rs.take jj⟩:=⟨hRp.nm,hRp.pl,hRp.vars,hRp.vlen,λx hx=>hRp.stages x (Ye hx),by have:=hRp.slen; simp only[VY]at this ⊢; omega,by simp only[VY]; omega⟩;have k23:=λH=>ok23 (H:=H) m5 (Qx.prp_er m5 hRt);have htk:rws Qb.c (rs.take jj)=List.take (jj*12) (rws Qb.c rs):=(QuR Qb.c_len rs jj (by omega)).symm;simp only[Qx.c,hqs,htk,VY,hmin]at k23;refine QZ (r:=bl true) (λ_=>by simpa[SV.strip]using k23 _) ?_;simp -implicitDefEqProofs;exact Qp 3 hcl rfl (by simp)
 . rw[m1];simp -implicitDefEqProofs[Qby,QK,c1',c2',c3',hck'];exact Qp 3 hcl rfl (by simp)
end
end Go.Proofs.YtmkdpmfhlfhjkaaGreatDoor
namespace Go.Proofs.YtmkdpmfhlfhjkaaGreatDoor
open Go Go.Ab
theorem Qu0 {d:Dt} {t e:ZK} (ht:Tryz.prog.underlying t=some (.slice e)) (he:Tryz.prog.underlying e=some (.int .i64)) (h:d.ty Tryz.prog t):∃ l:List Int,d.sv=.slc (QE l) l.length:=by
 cases d with
 |sl zs =>
  simp only[Dt.ty,ht,Option.some.injEq,TypeDesc.slice.injEq]at h;obtain⟨e',rfl,_,k3⟩:=h;obtain⟨l,z1,z2⟩:=QmH he zs k3;exact⟨l,by show [SV.slc (Dt.cellsL zs) zs.length].headD SV.any=_; rw[z1,z2]; rfl⟩
 |int k n=>simp[Dt.ty,ht]at h
 |bool b=>simp[Dt.ty,ht]at h
 |str s=>simp[Dt.ty,ht]at h
 |agg l=>simp[Dt.ty,ht]at h
theorem QtI {d:Dt} {t:ZK} (ht:Tryz.prog.underlying t=some (.int .i64)) (h:d.ty Tryz.prog t):∃ n:Int,d.sv=i64 n /\ -9223372036854775808<=n/\n<=9223372036854775807:=by
 cases d with
 |int k n =>
  simp only[Dt.ty,ht,Option.some.injEq,TypeDesc.int.injEq]at h;obtain⟨rfl,hw⟩:=h;refine⟨n,rfl,?_⟩
  revert hw
  simp[Lit.wf,IntKind.min,IntKind.max,IntKind.signed,IntKind.bits]
 |bool b=>simp[Dt.ty,ht]at h
 |str s=>simp[Dt.ty,ht]at h
 |sl l=>simp[Dt.ty,ht]at h
 |agg l=>simp[Dt.ty,ht]at h
theorem law7d:∀ dts,Dt.tyL Tryz.prog dts Tryz.f7.params.toList->Ok Tryz.prog 7 (dts.map Dt.sv) [] (.ret (bl true)) []:=by
 have hp:Tryz.f7.params.toList=[46,3]:=by kernel_rfl
 have u46:Tryz.prog.underlying 46=some (.slice 3):=by kernel_rfl
 have u3:Tryz.prog.underlying 3=some (.int .i64):=by kernel_rfl
 rw[hp];intro dts h
 match dts,h with
 |[d1,d2],h =>
  obtain⟨h1,h2,_⟩:=h;obtain⟨l,e1⟩:=Qu0 u46 u3 h1;obtain⟨n,e2,h3,h4⟩:=QtI u3 h2;simp only[Vn,VU,e1,e2];exact law7 l n h3 h4
end Go.Proofs.YtmkdpmfhlfhjkaaGreatDoor
