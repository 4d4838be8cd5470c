/- Steps of the proof. -/
import Derived.Test.YtmkdpmfhlfhjkaaGreatDoorPart1
import Derived.Test.YtmkdpmfhlfhjkaaGreatDoorCore4
import Derived.Lib.AppendIntMem
set_option linter.all false
namespace Go.Proofs.YtmkdpmfhlfhjkaaGreatDoor
open Go.Ab
section
variable {H:ZI}
theorem ok78:Ok Tryz.prog 78 [] H (.ret (.agg Qmq)) H:=by
 have m1:∀ i,(SV.mp i 0).ug=.mp i 0:=λ_=>rfl;have m2:∀ i,(SV.mp i 0).flat=[.mp i 0]:=λ_=>rfl;have m3:∀ i,QaW 1 (.mp i 0):=λi=>⟨rfl,rfl,rfl⟩;have m4:∀ i,(SV.mp i 0).isCell=true:=λ_=>rfl;have m5:∀ i,(SV.mp i 0).vd=true:=λ_=>rfl;refine Qt hm Tryz.func78 c78 (by simp) λZ => ?_;simp -implicitDefEqProofs[i78,r78];refine Qb0 (x:=([],[])) (by simp[SV.mapOf]) rfl rfl rfl ?_;simp -implicitDefEqProofs[Q9,Q6,SV.key];refine Qb0 (x:=([],[])) (by simp[SV.mapOf]) rfl rfl rfl ?_;simp -implicitDefEqProofs[Q9,Q6,SV.key];refine Qb0 (x:=([],[])) (by simp[SV.mapOf]) rfl rfl rfl ?_;simp -implicitDefEqProofs[Q9,Q6,SV.key];refine Qb0 (x:=([.string (B [61,61])],[V 10])) (by simp[SV.mapOf]) rfl rfl rfl ?_;simp -implicitDefEqProofs[Q9,Q6,QaI,SV.key];refine Qb0 (x:=([.string (B [61,61]),.string (B [33,61])],[V 10,V 11])) (by simp[SV.mapOf]) rfl rfl rfl ?_;simp -implicitDefEqProofs[Q9,Q6,QaI,SV.key];refine Qb0 (x:=([.string (B [61,61]),.string (B [33,61]),.string (B [60])],[V 10,V 11,V 12])) (by simp[SV.mapOf]) rfl rfl rfl ?_;simp -implicitDefEqProofs[Q9,Q6,QaI,SV.key];refine Qb0 (x:=([.string (B [61,61]),.string (B [33,61]),.string (B [60]),.string (B [60,61])],[V 10,V 11,V 12,V 13])) (by simp[SV.mapOf]) rfl rfl rfl ?_;simp -implicitDefEqProofs[Q9,Q6,QaI,SV.key]
 refine Qb0 (x:=([.string (B [61,61]),.string (B [33,61]),.string (B [60]),.string (B [60,61]),.string (B [62])],[V 10,V 11,V 12,V 13,V 14])) (by simp[SV.mapOf]) rfl rfl rfl ?_;simp -implicitDefEqProofs[Q9,Q6,QaI,SV.key];refine Qb0 (x:=([],[])) (by simp[SV.mapOf]) rfl rfl rfl ?_;simp -implicitDefEqProofs[Q9,Q6,SV.key];refine Qb0 (x:=([.string (B [43])],[V 8])) (by simp[SV.mapOf]) rfl rfl rfl ?_;simp -implicitDefEqProofs[Q9,Q6,QaI,SV.key];refine Qb0 (x:=([],[])) (by simp[SV.mapOf]) rfl rfl rfl ?_;simp -implicitDefEqProofs[Q9,Q6,SV.key];refine Qb0 (x:=([.string (B [42])],[V 5])) (by simp[SV.mapOf]) rfl rfl rfl ?_;simp -implicitDefEqProofs[Q9,Q6,QaI,SV.key];refine Qb0 (x:=([.string (B [42]),.string (B [47])],[V 5,V 6])) (by simp[SV.mapOf]) rfl rfl rfl ?_;simp -implicitDefEqProofs[Q9,Q6,QaI,SV.key,m1,m2,m3,m4];refine Qq 3 Z rfl ?_;simp[Qmq,mpS,mpK,mpV,orO,QaU,QaJ,QaZ,QaV,SV.fz]
theorem Qlc (e p:Int):Ok Tryz.prog 77 [QZ e p] H (.ret (QG e p)) H:=by
 refine Qt hm Tryz.func77 c77 (by simp[QZ,QG]) λZ => ?_;simp -implicitDefEqProofs[i77,r77,QZ,QG,SV.isIf,SV.ifIs,SV.ifVal];exact Qq 2 Z rfl rfl
theorem Qzs {f g:Nat} (hf:f<H.length) (hg:g<H.length):OkD Tryz.prog 76 [rp f,rp g] H none (λH'=>H'=H):=by
 refine QlW hm Tryz.func76 c76 (by rfl) λZ => ?_;simp -implicitDefEqProofs[Qo4,i76,rp,rvD,SV.isIf,SV.ifNil];exact Qi
theorem Qyj {f g:Nat} {c1 c2:ZJ} (hf:H[f]? = some ⟨c1,25,0,true⟩) (hc1:c1.length=5) (hg:H[g]? = some ⟨c2,28,0,true⟩) (hc2:c2.length=2) (hne:f≠g) (e p:Int) :
 OkD Tryz.prog 76 [rp f,rp g] H (some (QZ e p)) (λH'=>H'=(H.set f zO).set g ⟨[V e,V p],28,0,true⟩):=by
 have hj:=Qk hf;have hjg:=Qk hg;have e2:∀ (L:ZI) (h:AO->AO),Ab.setObj (H++L) f h=H.set f (h ⟨c1,25,0,true⟩)++L:=λL h=>by
  rw[Qcn (o:=⟨c1,25,0,true⟩) (by rw[Vc hj]; exact hf),Vn _ _ hj]
 have hg':(H.set f zO)[g]? = some ⟨c2,28,0,true⟩:=by rw[Vg hne]; exact hg
 have e4:∀ (L:ZI) (h:AO->AO),Ab.setObj (H.set f zO++L) g h=(H.set f zO).set g (h ⟨c2,28,0,true⟩)++L:=λL h=>by
  rw[Qcn (o:=⟨c2,28,0,true⟩) (by rw[Vc (by simpa using hjg)]; exact hg'),Vn _ _ (by simpa using hjg)]
 have e1:∀ L,Qo (H++L) f 0=c1:=λL=>Q7 (o:=⟨c1,25,0,true⟩) (by rw[Vc hj]; exact hf) rfl;have e3:∀ L,Qo (H.set f zO++L) g 0=c2:=λL=>Q7 (o:=⟨c2,28,0,true⟩) (by rw[Vc (by simpa using hjg)]; exact hg') rfl;have d1:List.drop 5 c1=[]:=VZ (by omega);have d2:List.drop 2 c2=[]:=VZ (by omega);simp only[zO]at e3 e4;refine QlW hm Tryz.func76 c76 (by rfl) λZ => ?_;simp -implicitDefEqProofs[Qo4,i76,rp,rvD,SV.isIf,SV.ifNil,QZ];refine Qfn (λ_=>Qlc e p) ?_;simp -implicitDefEqProofs[QG,e1,e2,e3,e4,hc1,hc2,d1,d2];have hc1':closed (H.set f zO):=by
  have:=Qfw Z f (o:=zO) (by simp[zO,SV.underL,SV.under]);simpa using this
 have hc2':closed ((H.set f zO).set g ⟨[V e,V p],28,0,true⟩):=by
  have:=Qfw hc1' g (o:=⟨[V e,V p],28,0,true⟩) (by simp[SV.underL]);simpa using this
 refine⟨rfl,Qia (by simpa[QZ,QG]using Qlc e p),?_⟩;exact Qq 2 hc2' (by simp) rfl
theorem Quq (Z:closed H) (e p:Int) (L:ZI):Cv H.length (.tup [.agg zO.cells,QG e p]) (H++L) (.tup [zE.v,QG e p]) H:=by
 refine Cv.le (Qq (n0:=H.length) (r1:=.tup [.agg [V 0,V 0,st (B []),.val (.slice none 0 0),V 0],.agg [V e,V p]]) (r:=.tup [.agg [V 0,V 0,st (B []),.val (.slice none 0 0),V 0],.agg [V e,V p]]) 3 Z rfl (by simp)) ?_;exact Ql0 (leL.cons (Qux 0 0 [] 0) (leL.cons (SV.le.refl _) leL.nil))
theorem Qur {q:Ex×Int×Int} (Z:closed H) (hq:q.1=zE) {U:Env} {H1:ZI} {c1 c2:ZJ} (hf:H1[H.length]? = some ⟨c1,25,0,true⟩) (hc1:c1.length=5) (hg:H1[H.length+1]? = some ⟨c2,28,0,true⟩) (hc2:c2.length=2)
 (hp:∀ i,i<H.length->H1[i]? = H[i]?) (h4:U.get 4=rp H.length) (h5:U.get 5=rp (H.length+1)) :
 Qhj Tryz.prog H.length r31 (λo h=>o=.ret (.tup [q.1.v,QG q.2.1 q.2.2])/\h=H) 76 [rp H.length,rp (H.length+1)] (.panic (QZ q.2.1 q.2.2)) U H1:=by
 refine⟨_,Qyj hf hc1 hg hc2 (by omega) _ _,?_⟩;rintro H4 rfl;have hlen:H.length+2<=H1.length:=by have:=Qk hg; omega
 obtain⟨L,hL⟩:∃ L,(H1.set H.length zO).set (H.length+1) ⟨[V q.2.1,V q.2.2],28,0,true⟩=H++zO::⟨[V q.2.1,V q.2.2],28,0,true⟩::L:=by
  refine⟨H1.drop (H.length+2),?_⟩;apply Ya;intro i;rcases YC i H.length with h|h|h
  . rw[Vg (by omega),Vg (by omega),hp i h,Vc h]
  . subst h;rw[Vg (by omega),Vq (by omega),Vk (by omega)];simp
  . by_cases h2:i=H.length+1
    . subst h2;rw[Vq (by simp; omega),Vk (by omega)];simp
    . rw[Vg (by omega),Vg (by omega),Vk (by omega)];obtain⟨k,rfl⟩:∃ k,i=H.length+2+k:=⟨i-(H.length+2),by omega⟩;have e:H.length+2+k-H.length=k+1+1:=by omega
      rw[e,YD,YD,VU]
 rw[hL];have e1:Qo (H++zO::⟨[V q.2.1,V q.2.2],28,0,true⟩::L) H.length 0=zO.cells:=Q7 (o:=zO) (by simp) rfl;have e2:Qo (H++zO::⟨[V q.2.1,V q.2.2],28,0,true⟩::L) (H.length+1) 0=[V q.2.1,V q.2.2]:=Q7 (o:=⟨[V q.2.1,V q.2.2],28,0,true⟩) (by simp) rfl;refine⟨?_,_,H,⟨rfl,rfl⟩,?_⟩
 . intro s hs;simp only[r31,Vd,Vu,Zw]at hs;rcases hs with rfl|rfl
   . simp[RS.side,h4,rp,zO]
   . simp[RS.side,h5,rp,e2]
 . have hr:Qa2 U (H++zO::⟨[V q.2.1,V q.2.2],28,0,true⟩::L) r31=.tup [.agg zO.cells,QG q.2.1 q.2.2]:=by
    simp[Qa2,r31,RS.ev,h4,h5,rp,zO,QG]
   rw[hr,hq];exact Quq Z _ _ _
theorem QxZ {x:Ex} (Z:closed H) {U:Env} {L:ZI} (h4:U.get 4=rp H.length) (h5:U.get 5=rp (H.length+1)) :
 Qhj Tryz.prog H.length r31 (λo h=>o=.ret (.tup [.agg x.c,.agg [V 0,V 0]])/\h=H) 76 [rp H.length,rp (H.length+1)] .ret U (H++eO x::⟨[V 0,V 0],28,0,true⟩::L):=by
 refine⟨_,Qzs (by simp) (by simp),?_⟩;rintro H4 rfl;have e1:Qo (H++eO x::⟨[V 0,V 0],28,0,true⟩::L) H.length 0=x.c:=Q7 (o:=eO x) (by simp) rfl;have e2:Qo (H++eO x::⟨[V 0,V 0],28,0,true⟩::L) (H.length+1) 0=[V 0,V 0]:=Q7 (o:=⟨[V 0,V 0],28,0,true⟩) (by simp) rfl;refine⟨?_,_,H,⟨rfl,rfl⟩,?_⟩
 . intro s hs;simp only[r31,Vd,Vu,Zw]at hs;rcases hs with rfl|rfl
   . simp[RS.side,h4,rp,e1]
   . simp[RS.side,h5,rp,e2]
 . have hr:Qa2 U (H++eO x::⟨[V 0,V 0],28,0,true⟩::L) r31=.tup [.agg x.c,.agg [V 0,V 0]]:=by
    simp[Qa2,r31,RS.ev,h4,h5,rp,e1,e2]
   rw[hr];exact Qq 3 Z rfl (by simp)
theorem ok31 {l:ZG} (hl:l.length<4611686018427387904) (hT:Qfi ⟨(QB l).1,l.length⟩):Ok Tryz.prog 31 [st (B l),.fn (.func 32) [] []] H (.ret (.tup [(Qz l).1.v,QG (Qz l).2.1 (Qz l).2.2])) H:=by
 refine OkP.toOk (Qp7 hm Tryz.func31 c31 (by rfl) λZ => ?_);have hlen:=QnS l;have h26:=λH=>ok26 (H:=H) hl;have hex:Qz l=if(QB l).2.1≠0 then(zE,(QB l).2)else Qeb ⟨(QB l).1,l.length⟩:=rfl;rw[hex];generalize QB l=s at hlen h26 hT ⊢;obtain⟨ts,fe,fp⟩:=s;simp only at hlen h26 hT ⊢;simp -implicitDefEqProofs[XL,i31p,Qpv,QuW,QtG];refine Qb (h26 _) ?_;simp -implicitDefEqProofs[QG,Qbl];by_cases hs:fe=0
 . subst hs;simp -implicitDefEqProofs[i31s,i31f,XL,QgU,i31];have hlc:ts.length<4611686018427387904:=by omega
   have hg:Gd ⟨ts,l.length⟩ 40 ⟨0,0,0,0⟩:=⟨V5 _,.inr rfl⟩;have hor:PdC ⟨ts,l.length⟩ 32 [] (au ⟨ts,l.length⟩) 40:=(QtX hT hlc 40 (by omega)).2.2;refine⟨76,_,⟨rfl,rfl⟩,Qb ok78 ?_⟩;simp -implicitDefEqProofs[Qmq];have hG:∀ L,(H++(zO::⟨[V 0,V fp],28,0,true⟩::ae ⟨ts,l.length⟩ ⟨0,0,0,0⟩::L))[H.length+2]? = some (ae ⟨ts,l.length⟩ ⟨0,0,0,0⟩):=λL=>by simp
   have hc:=hor (hG []) hg rfl;refine⟨⟨rfl,rfl,rfl,rfl,rfl⟩,QQ (Pt:=PdP ⟨ts,l.length⟩ (H++[zO,⟨[V 0,V fp],28,0,true⟩,ae ⟨ts,l.length⟩ ⟨0,0,0,0⟩]) (H.length+2) (au ⟨ts,l.length⟩ ⟨0,0,0,0⟩)) (by simpa[rp,zO,ae,pdC,Qbl]using hc) ?_⟩;intro o H' hp;unfold PdP PdV at hp;generalize hw:Qeb ⟨ts,l.length⟩=w;unfold Qeb at hw;generalize au ⟨ts,l.length⟩ ⟨0,0,0,0⟩=x at hw hp;obtain⟨ex,r⟩:=x;dsimp only at hw hp;by_cases he:r.e=0
   . rw[Zr he]at hp;obtain⟨rfl,rfl⟩:=hp;have hset:(H++[zO,⟨[V 0,V fp],28,0,true⟩,ae ⟨ts,l.length⟩ ⟨0,0,0,0⟩]).set (H.length+2) (ae ⟨ts,l.length⟩ r)=H++[zO,⟨[V 0,V fp],28,0,true⟩,ae ⟨ts,l.length⟩ r]:=by
      rw[Yk _ _ (by omega)]; simp
     rw[hset];have hG2:∀ z L,(H++(z::⟨[V 0,V fp],28,0,true⟩::ae ⟨ts,l.length⟩ r::L))[H.length+2]? = some (ae ⟨ts,l.length⟩ r):=λz L=>by simp
     by_cases hlt:r.a<ts.length
     . have h79:=Qdk (hG2 (eO ex) []) 11;rw[Zr hlt]at hw;have hf2:(Qg ⟨ts,l.length⟩ 11 r).e=11/\(Qg ⟨ts,l.length⟩ 11 r).p=Qm ⟨ts,l.length⟩ r:=by simp[Qg,he]
       rw[Zr (by rw[hf2.1]; decide),hf2.1,hf2.2]at hw;subst hw;simp -implicitDefEqProofs[Ex.v,zO,ae,pdC,Qbl,hlt];refine Qb (by simpa[rp,eO,ae,pdC,Qbl]using h79) ?_;simp -implicitDefEqProofs;exact Qur (q:=(zE,11,Qm ⟨ts,l.length⟩ r)) Z rfl (c1:=ex.c) (c2:=[V 0,V fp]) (by simp) (by simp) (by simp) rfl (λi hi=>by rw[Vc hi]) (by simp[rp]) (by simp[rp])
     . rw[Zq hlt,Zq (by simp[he])]at hw;subst hw;simp -implicitDefEqProofs[Ex.v,zO,ae,pdC,Qbl,hlt];exact QxZ Z (by simp[rp]) (by simp[rp])
   . rw[Zq he]at hp;obtain⟨rfl,hk⟩:=hp;have hb:(if r.a<ts.length then Qg ⟨ts,l.length⟩ 11 r else r)=r:=by
      by_cases hlt:r.a<ts.length
      . rw[Zr hlt]; simp[Qg,he]
      . rw[Zq hlt]
     rw[hb,Zr he]at hw;subst hw;simp -implicitDefEqProofs;have hk1:∀ i,i<H.length+2->H'[i]? = (H++[zO,⟨[V 0,V fp],28,0,true⟩,ae ⟨ts,l.length⟩ ⟨0,0,0,0⟩])[i]? := λi hi=>hk.at_ i (by simp; omega) (by simp; omega);exact Qur (q:=(zE,r.e,r.p)) Z rfl (c1:=zO.cells) (c2:=[V 0,V fp]) (by rw[hk1 _ (by omega)]; simp[zO]) rfl (by rw[hk1 _ (by omega)]; simp) rfl (λi hi=>by rw[hk1 i (by omega),Vc hi]) (by simp[rp]) (by simp[rp])
 . simp -implicitDefEqProofs[hs,XL,QgU,r31];simp only[Zq hs];exact⟨rfl,_,_,⟨rfl,rfl⟩,by simpa[zO,QG]using Quq Z fe fp _⟩
theorem ok11 {l:ZG} (hl:l.length<4611686018427387904) (hT:Qfi ⟨(QB l).1,l.length⟩):Ok Tryz.prog 11 [st (B l)] H (.ret (.tup [(Qz l).1.v,QG (Qz l).2.1 (Qz l).2.2])) H:=by
 have h31:=λH=>ok31 (H:=H) hl hT;generalize Qz l=q at h31 ⊢;refine Qt hm Tryz.func11 c11 (by simp) λZ => ?_;simp -implicitDefEqProofs[i11,r11];refine Qb (h31 _) ?_;simp -implicitDefEqProofs[Ex.v,QG];exact Qq 3 Z rfl (by simp)
end
theorem QiR {l:ZG} {t:Tok}:∀ (n p:Nat),t∈Q4 (evs l n p)->∃ p q,p<l.length/\Qw l p=.tok t q
 |0,p,h=>by simp[evs,Q4]at h
 |n+1,p,h=>by
  simp only[evs]at h;split at h
  . rename_i hp;split at h
    . exact QiR n _ h
    . rename_i t' q hs;rw[Q4,Vd]at h;rcases h with rfl|h
      . exact⟨p,q,hp,hs⟩
      . exact QiR n _ h
    . simp[Q4]at h
  . simp[Q4]at h
theorem QpC {l:ZG} {p q:Nat} (hp:p<l.length) (hq:p<q):∃ r,cut l p q=l.getD p 0::r:=by
 unfold cut;rw[VN hp];obtain⟨k,hk⟩:∃ k,q-p=k+1:=⟨q-p-1,by omega⟩;rw[hk,List.take_succ_cons];refine⟨(l.drop (p+1)).take k,?_⟩;simp[List.getD,hp]
theorem Qzo {c:Nat} (h:cls c=2):c≠45/\c≠40:=by
 constructor
 . rintro rfl; revert h; decide
 . rintro rfl; revert h; decide
theorem Qz0 {c:Nat} (h:cls c=3):48<=c/\c<=57:=by
 unfold cls at h;split at h
 . cases h
 . split at h
   . cases h
   . split at h
     . rename_i hd; simpa[Qet]using hd
     . split at h<;>cases h
theorem Qga {l:ZG} {p q q':Nat} {k:Int} {t:Tok} (h:QN l p k q=.tok t q'):t.tx=cut l p q:=by
 unfold QN at h;split at h
 . cases h
 . cases h; rfl
theorem Qy5 {l:ZG} {p q:Nat} {t:Tok} (hp:p<l.length) (h:Qw l p=.tok t q):(t.k=2->Qis t.tx=true)/\(t.k=1->t.tx≠[45]/\t.tx≠[40]):=by
 have hq:=mkq h hp;unfold Qw at h;split at h
 . cases h
 . split at h
   . rename_i hc;have htx:=Qga h;obtain⟨rfl,hk,_⟩:=Qbz h;obtain⟨r,hr⟩:=QpC hp hq.1;have h2:=Qzo hc;refine⟨λhk2=>(by rw[hk]at hk2; cases hk2),λ_ => ?_⟩
     rw[htx,hr];constructor
     . intro e;have:=(List.cons.inj e).1;rw[this]at h2; exact h2.1 rfl
     . intro e;have:=(List.cons.inj e).1;rw[this]at h2; exact h2.2 rfl
   . split at h
     . rename_i hc;have htx:=Qga h;obtain⟨rfl,hk,_⟩:=Qbz h;obtain⟨r,hr⟩:=QpC hp hq.1;have h3:=Qz0 hc;refine⟨λ_ => ?_,λhk2=>(by rw[hk]at hk2; cases hk2)⟩
       rw[htx,hr];simp[Qis];exact h3
     . split at h
       . obtain⟨rfl,hk,_⟩:=Qbz h;exact⟨λhk2=>(by rw[hk]at hk2; cases hk2),λhk2=>(by rw[hk]at hk2; cases hk2)⟩
       . split at h
         . cases h
         . obtain⟨rfl,hk,_⟩:=Qbz h;exact⟨λhk2=>(by rw[hk]at hk2; cases hk2),λhk2=>(by rw[hk]at hk2; cases hk2)⟩
theorem tokT (l:ZG):Qfi ⟨(QB l).1,l.length⟩:=by
 have key:∀ t∈(QB l).1,(t.k=2->Qis t.tx=true)/\(t.k=1->t.tx≠[45]/\t.tx≠[40]):=by
  intro t ht;unfold QB at ht;split at ht
  . simp at ht
  . split at ht
    . obtain⟨p,q,hp,hs⟩:=QiR _ _ ht;exact Qy5 hp hs
    . simp at ht
 exact⟨λt ht=>(key t ht).1,λt ht=>(key t ht).2⟩
section
variable {H:ZI} {l:ZG}
theorem Qhv (hl:l.length<4611686018427387904):Ok Tryz.prog 11 [st (B l)] H (.ret (.tup [(Qz l).1.v,QG (Qz l).2.1 (Qz l).2.2])) H:=ok11 hl (tokT l)
end
structure Qn where
 nm:ZG
 n:Int
 p:Int
structure Ql where
 nm:ZG
 e:Ex
 p:Int
structure Qh where
 nm:ZG
 wh:List Ex
 hid:Bool
 sets:List Ql
 go:ZG
 p:Int
structure Qc where
 k:Int
 lb:ZG
 nm:ZG
 lo:Int
 hi:Int
 wt:List Ex
 all:Bool
 seen:List Int
 who:List Ex
 acts:List Qh
 pays:List Ex
 p:Int
structure Qy where
 nm:ZG
 pl:Int
 vars:List Qn
 stages:List Qc
def an (l:List Ex):SV:=.slc (Ex.cL l) l.length
def Qn.c (v:Qn):ZJ:=[st (B v.nm),V v.n,V v.p]
def Ql.c (s:Ql):ZJ:=st (B s.nm)::(s.e.c++[V s.p])
def Qh.c (a:Qh):ZJ:=[st (B a.nm),an a.wh,bl a.hid,.slc (rws Ql.c a.sets) a.sets.length,st (B a.go),V a.p]
def Qc.c (x:Qc):ZJ:=[V x.k,st (B x.lb),st (B x.nm),V x.lo,V x.hi,an x.wt,bl x.all,.slc (QE x.seen) x.seen.length,an x.who,.slc (rws Qh.c x.acts) x.acts.length,an x.pays,V x.p]
def Qy.c (r:Qy):ZJ:=[st (B r.nm),V r.pl,.slc (rws Qn.c r.vars) r.vars.length,.slc (rws Qc.c r.stages) r.stages.length]
def QdZ:Qc:=⟨0,[],[],0,0,[],false,[],[],[],[],0⟩
def QfK:Qy:=⟨[],0,[],[]⟩
section
variable (c:Cx) (orP:Rd->Ex×Rd)
def t2 (s:ZG) (r:Rd):Rd:=(Qj c s r).2
def Qbm (s:ZG) (r:Rd):List Ex×Rd:=if Qd c s r=true then([(orP (t2 c s r)).1],(orP (t2 c s r)).2)else([],r)
def Qbh (s:ZG) (r:Rd):Bool×Rd:=if Qd c s r=true then(true,t2 c s r)else(false,r)
def Qbp (l:List Ql) (r:Rd):Ql×Rd :=
 let r1:=if l.length=32/\QV c r=true then Qg c 12 r else r
 let w:=QX c r1
 let x:=orP (t2 c [61] w.2)
 (⟨w.1,x.1,Qm c r1⟩,t2 c [59] x.2)
def Qb8:Nat->List Ql->Rd->List Ql×Rd
 |0,l,r=>(l,r)
 |n+1,l,r=>if r.e=0/\Qd c [125] r=false then Qb8 n (l++[(Qbp c orP l r).1]) (Qbp c orP l r).2 else(l,r)
def Qb2 (r:Rd):ZG×Rd :=
 if Qd c [103,111,116,111] r=true then((QX c (t2 c [103,111,116,111] r)).1,t2 c [59] (QX c (t2 c [103,111,116,111] r)).2)else([],r)
def Qaa (r:Rd):Qh×Rd :=
 let t:=Qj c [97,99,116,105,111,110] r
 let nm:=QX c t.2
 let w:=Qbm c orP [119,104,101,110] nm.2
 let h:=Qbh c [104,105,100,100,101,110] w.2
 let s:=Qb8 c orP (c.ts.length+1) [] (t2 c [123] h.2)
 let g:=Qb2 c (t2 c [125] s.2)
 (⟨nm.1,w.1,h.1,s.1,g.1,t.1⟩,g.2)
def Qcg:Nat->List Ex->Rd->List Ex×Rd
 |0,l,r=>(l,r)
 |n+1,l,r=>if Qd c [44] r=true then
  let r1:=t2 c [44] r
  let r2:=if l.length=32/\QdM c r1=true then Qg c 12 r1 else r1
  Qcg n (l++[(orP r2).1]) (orP r2).2
  else(l,r)
def QeQ (r:Rd):List Ex×Rd:=Qcg c orP c.ts.length [(orP r).1] (orP r).2
def QcP:Nat->List Int->Rd->List Int×Rd
 |0,l,r=>(l,r)
 |n+1,l,r=>if Qd c [44] r=true then
  let r1:=t2 c [44] r
  let r2:=if l.length=32/\r1.a<c.ts.length/\QbE c { r1 with e:=0 } (λt=>decide (t.k=2))=true then Qg c 12 r1 else r1
  QcP n (l++[(nmR c r2).1]) (nmR c r2).2
  else(l,r)
def Qa3 (r:Rd):(Bool×List Int)×Rd :=
 if Qd c [115,101,101,110] r=true then
  let r1:=t2 c [98,121] (t2 c [115,101,101,110] r)
  if Qd c [97,108,108] r1=true then((true,[]),t2 c [97,108,108] r1)
  else
   let s:=QcP c c.ts.length [(nmR c r1).1] (nmR c r1).2
   ((false,s.1),s.2)
 else((false,[]),r)
def QeX (x:Qc) (r:Rd):Qc×Rd :=
 let t:=Qj c [100,101,97,108] r
 let nm:=QX c t.2
 let lo:=nmR c (t2 c [105,110] nm.2)
 let hi:=nmR c (t2 c [46,46] lo.2)
 let w:=Qbm c orP [119,101,105,103,104,116] hi.2
 let s:=Qa3 c w.2
 ({ x with k:=1,p:=t.1,nm:=nm.1,lo:=lo.1,hi:=hi.1,wt:=w.1,all:=s.1.1,seen:=s.1.2 },t2 c [59] s.2)
def QbY (fuel:Nat):Nat->List Qh->Rd->List Qh×Rd
 |0,l,r=>(l,r)
 |n+1,l,r=>if Qd c [97,99,116,105,111,110] r=true then
  let r1:=if l.length=10 then Qg c 12 r else r
  QbY fuel n (l++[(Qaa c orP r1).1]) (Qaa c orP r1).2
  else(l,r)
def Qfg (x:Qc) (r:Rd):Qc×Rd :=
 let t:=Qj c [116,117,114,110] r
 let w:=orP t.2
 let a:=Qaa c orP (t2 c [123] w.2)
 let l:=QbY c orP 0 c.ts.length [a.1] a.2
 ({ x with k:=2,p:=t.1,who:=[w.1],acts:=l.1 },t2 c [125] l.2)
def Qbg (r:Rd):ZG×Rd:=if QV c r=true then((QX c r).1,t2 c [58] (QX c r).2)else([],r)
def QaE (r:Rd):Qc×Rd :=
 let l:=Qbg c r
 let x:={ QdZ with lb:=l.1 }
 if Qd c [100,101,97,108] l.2=true then QeX c orP x l.2
 else if Qd c [116,117,114,110] l.2=true then Qfg c orP x l.2
 else
  let t:=Qj c [101,110,100] l.2
  let e:=QeQ c orP (t2 c [112,97,121] (t2 c [123] t.2))
  ({ x with k:=3,p:=t.1,pays:=e.1 },t2 c [125] (t2 c [59] e.2))
def QbU (l:List Qn) (r:Rd):Qn×Rd :=
 let r0:=t2 c [118,97,114] r
 let r1:=if l.length=40/\QV c r0=true then Qg c 12 r0 else r0
 let w:=QX c r1
 let r2:=t2 c [61] w.2
 let s:=Qbh c [45] r2
 let n:=nmR c s.2
 (⟨w.1,IntKind.i64.wrap ((if s.1 then -1 else 1)*n.1),Qm c r1⟩,t2 c [59] n.2)
def QbX:Nat->List Qn->Rd->List Qn×Rd
 |0,l,r=>(l,r)
 |n+1,l,r=>if Qd c [118,97,114] r=true then QbX n (l++[(QbU c l r).1]) (QbU c l r).2 else(l,r)
def Qdd (l:List Qc) (r:Rd):Rd :=
 if l.length=100/\(QV c r||Qd c [100,101,97,108] r||Qd c [116,117,114,110] r||Qd c [101,110,100] r)=true then Qg c 12 r else r
def QaS:Nat->List Qc->Rd->List Qc×Rd
 |0,l,r=>(l,r)
 |n+1,l,r=>if r.e=0/\(l=[]\/r.a<c.ts.length)then
  QaS n (l++[(QaE c orP (Qdd c l r)).1]) (QaE c orP (Qdd c l r)).2
  else(l,r)
def QhP:Qy×Int×Int :=
 let w:=QX c (t2 c [103,97,109,101] ⟨0,0,0,0⟩)
 let n:=nmR c (t2 c [112,108,97,121,101,114,115] (t2 c [59] w.2))
 let v:=QbX c c.ts.length [] (t2 c [59] n.2)
 let s:=QaS c orP (c.ts.length+1) [] v.2
 if s.2.e≠0 then(QfK,s.2.e,s.2.p)else(⟨w.1,n.1,v.1,s.1⟩,0,0)
end
def QR (l:ZG):Qy×Int×Int :=
 if(QB l).2.1≠0 then(QfK,(QB l).2)else QhP ⟨(QB l).1,l.length⟩ (au ⟨(QB l).1,l.length⟩)
mutual
def Ex.sm:Ex->Prop
 |.mk _ _ _ l _=>l.length<=3/\Ex.smL l
def Ex.smL:List Ex->Prop
 |[]=>True
 |e::r=>e.sm/\Ex.smL r
end
theorem Qn6:∀ {l:List Ex},Ex.smL l↔∀ e∈l,e.sm
 |[]=>by simp[Ex.smL]
 |e::r=>by simp[Ex.smL,Qn6 (l:=r)]
theorem QdW:zE.sm:=by simp[zE,Ex.sm,Ex.smL]
theorem QuF (op n:Int) (nm:ZG) (p:Int):(Ex.mk op n nm [] p).sm:=by simp[Ex.sm,Ex.smL]
theorem Qt8 {op n:Int} {nm:ZG} {p:Int} {a:Ex} (h:a.sm):(Ex.mk op n nm [a] p).sm:=by simp[Ex.sm,Ex.smL,h]
theorem Qug {op n:Int} {nm:ZG} {p:Int} {a b:Ex} (h:a.sm) (h2:b.sm):(Ex.mk op n nm [a,b] p).sm:=by simp[Ex.sm,Ex.smL,h,h2]
section
variable {c:Cx} {F G:Rd->Ex×Rd}
theorem Qp2 {aa:List (ZG×Int)} (hF:∀ r,(F r).1.sm):∀ (n:Nat) (e:Ex) (r:Rd),e.sm->(Qa4 c aa F n e r).1.sm
 |0,e,r,h=>h
 |n+1,e,r,h=>by
  rw[Qa4];split
  . exact Qp2 hF n _ _ (Qug h (hF _))
  . exact h
theorem Qmf {aa:List (ZG×Int)} (hF:∀ r,(F r).1.sm) (r:Rd):(Q0 c aa F r).1.sm:=Qp2 hF _ _ _ (hF r)
theorem QD9 (hF:∀ r,(F r).1.sm) (r:Rd):(Qaz c F r).1.sm:=by
 unfold Qaz;split
 . exact Qug (hF _) (hF _)
 . exact hF _
theorem QvI (hF:∀ r,(F r).1.sm) (hG:∀ r,(G r).1.sm) (r:Rd):(Qal c F G r).1.sm:=by
 unfold Qal;split
 . split
   . exact QdW
   . exact Qt8 (hG _)
 . exact hF _
theorem QqM (hF:∀ r,(F r).1.sm):∀ (m:Nat) (l:List Ex) (r:Rd),(∀ x∈l,x.sm)->∀ l',(QP c F m l r).1=some l'->l'.length=l.length+m/\∀ x∈l',x.sm
 |0,l,r,h,l',h'=>by
  simp only[QP,Option.some.injEq]at h';subst h'; exact⟨rfl,h⟩
 |m+1,l,r,h,l',h'=>by
  rw[QP]at h';split at h'
  . cases h'
  . have:=QqM hF m _ _ (λx hx=>by
     rcases Vt.1 hx with hx|hx
     . exact h x hx
     . rw[VX.1 hx]; exact hF _) l' h'
    refine⟨by rw[this.1]; simp; omega,this.2⟩
theorem QxL {s:ZG} {op p:Int} {m:Nat} (hm:m<=2) (hF:∀ r,(F r).1.sm) (r:Rd):(Qcm c F s op m p r).1.sm:=by
 unfold Qcm;simp only[];split
 . exact QdW
 . have:=QqM (c:=c) hF m [(F (QA c [40] (Qj c s r).2).2).1] (F (QA c [40] (Qj c s r).2).2).2 (λx hx=>by rw[VX.1 hx]; exact hF _);generalize QP c F m [(F (QA c [40] (Qj c s r).2).2).1] (F (QA c [40] (Qj c s r).2).2).2=q at this ⊢;obtain⟨o,r3⟩:=q
   cases o with
   |none=>exact QdW
   |some l =>
    obtain⟨h1,h2⟩:=this l rfl;simp only[Ex.sm];exact⟨by rw[h1]; simp; omega,Qn6.2 h2⟩
theorem QDI (hF:∀ r,(F r).1.sm) (hG:∀ r,(G r).1.sm) (r:Rd):(QC c F G r).1.sm:=by
 unfold QC;split
 . exact QdW
 . split
   . exact QuF _ _ _ _
   . split
     . split
       . exact QdW
       . exact Qt8 (hG _)
     . split
       . split
         . exact QdW
         . exact hF _
       . split
         . rename_i w hw;have:w∈Qan:=Y5 hw;refine QxL ?_ hF r;simp[Qan]at this;rcases this with rfl|rfl|rfl<;>decide
         . exact QuF _ _ _ _
theorem Qv8 (c:Cx):∀ d:Nat,(∀ r,((lv c d).fac r).1.sm)/\(∀ r,((lv c d).nt r).1.sm)/\∀ r,(QaT c (lv c d) r).1.sm:=by
 have step:∀ (o f n:Rd->Ex×Rd),(∀ r,(o r).1.sm)->(∀ r,(f r).1.sm)->(∀ r,(n r).1.sm)->(∀ r,((lvS c o f n).fac r).1.sm)/\(∀ r,((lvS c o f n).nt r).1.sm)/\∀ r,(QaT c (lvS c o f n) r).1.sm:=by
  intro o f n h1 h2 h3;have a1:∀ r,(QC c o f r).1.sm:=QDI h1 h2;have a2:∀ r,(Qal c (Qhw c (QC c o f)) n r).1.sm:=QvI (QD9 (Qmf (Qmf a1))) h3;exact⟨a1,a2,Qmf (Qmf a2)⟩
 intro d
 induction d with
 |zero=>exact step _ _ _ (λ_=>QdW) (λ_=>QdW) (λ_=>QdW)
 |succ d ih=>exact step _ _ _ ih.2.2 ih.1 ih.2.1
end
theorem QCD (l:ZG):(Qz l).1.sm:=by
 unfold Qz;split
 . exact QdW
 . unfold Qeb;have h:=(Qv8 ⟨(QB l).1,l.length⟩ 40).2.2 ⟨0,0,0,0⟩;change (au ⟨(QB l).1,l.length⟩ ⟨0,0,0,0⟩).1.sm at h;generalize au ⟨(QB l).1,l.length⟩ ⟨0,0,0,0⟩=q at h ⊢;simp only[];repeat' split
   all_goals first|exact QdW|exact h
theorem QeC {l:List Ex} {i:Nat} (h:i<l.length):((Ex.cL l).drop (i*5)).take 5=l[i].c:=by
 rw[QtD,Qej Ex.c_len h,VP (by simp)]
section
variable {H:ZI}
theorem QvG {l:List Ex} (hl:l.length<=3) (hIH:∀ e∈l,∀ H,Ok Tryz.prog 13 [e.v,e.v] H (.ret (bl true)) H) {N:Nat} {K:ZH}
 (ai:∀ U G,K (.exit 0) U (H++G)) :
 ∀ (k i:Nat) (G:ZI) (U:Env),i+k=l.length->U.get 0=an l->U.get 1=an l->U.get 5=V i ->
  LI Tryz.prog N Qf Qkq U (H++G) K:=by
 intro k
 induction k with
 |zero =>
  intro i G U hi h0 h1 h5;refine Qp hm Qkq.eq_1 ?_;have e:i=l.length:=by omega
  subst e;simp[h0,h1,h5,an];exact ai _ _
 |succ k ih =>
  intro i G U hi h0 h1 h5;refine Qp hm Qkq.eq_1 ?_;have hlt:i<l.length:=by omega
  have ax:(i:Int)<l.length:=by omega
  have hg:=QeC hlt;have hlen:=Qeo l;have h9:=hIH l[i] (Vp hlt);generalize l[i]=e at hg h9;simp[h0,h1,h5,an,ax,hg,hlen];refine⟨by omega,Qfn (r:=bl true) (λ_=>h9 _) ?_⟩;simp[h0,h1,h5,an];refine ih (i+1) G _ (by omega) ?_ ?_ ?_;all_goals simp[an,Qaj (show i<9223372036854775807 by omega)]
mutual
theorem Qne:∀ (e:Ex),e.sm->∀ (H:ZI),Ok Tryz.prog 13 [e.v,e.v] H (.ret (bl true)) H
 |.mk op n nm l p,he,H=>by
  unfold Ex.sm at he;have hIH:=Qsq l he.2;have h37:∀ H,Ok Tryz.prog 37 [an l,an l] H (.ret (bl true)) H:=λH=>by
   refine Qt hm Tryz.func37 c37 (by simp) λZ => ?_;simp[i37,r37,an];refine LI.cong (H':=H++[]) (by simp) ?_;refine QvG he.1 hIH (λU G => ?_) l.length 0 [] _ (by omega) ?_ ?_ ?_
   . simp;refine Qq 2 Z rfl ?_;simp
   all_goals simp[an]
  refine Qt hm Tryz.func13 c13 (by simp) λZ => ?_;simp[i13,r13,Ex.v,Ex.c];refine QL (r:=bl true) (λ_=>h37 _) ?_;simp;refine Qq 2 Z rfl ?_;simp
theorem Qsq:∀ (l:List Ex),Ex.smL l->∀ e∈l,∀ (H:ZI),Ok Tryz.prog 13 [e.v,e.v] H (.ret (bl true)) H
 |[],_,_,h=>by cases h
 |e::r,hl,x,hx=>by
  unfold Ex.smL at hl;by_cases hh:x=e
  . rw[hh]; exact Qne e hl.1
  . exact Qsq r hl.2 x (by simpa[hh]using hx)
end
end
def Qbs (k:Int) (tx:ZG) (n:Int):Int :=
 if tx=[]\/k<1\/3<k\/ao tx 0=1\/tx.getD 0 0=35 then 3 else
  match Qw tx 0 with
  |.tok t q=>if q≠tx.length\/t.k≠k then 3 else if t.n≠n then 2 else 0
  |_=>3
theorem QlF {l:ZG} {p q:Nat} (c1:ao l p≠1) (c5:l.getD p 0≠35):Qw l p≠.skip q:=by
 intro hst;unfold Qw at hst;rw[Zq c1]at hst;have key:∀ k q',QN l p k q'≠.skip q:=by intro k q' h; unfold QN at h; split at h<;>cases h
 split at hst
 . exact key _ _ hst
 . split at hst
   . exact key _ _ hst
   . split at hst
     . exact key _ _ hst
     . first
       |exact key _ _ hst
       | (rw[Zq c5]at hst; exact key _ _ hst)
def zC:ZJ:=[V 0,st (B []),V 0,V 0]
def tC (k:Int) (tx:ZG) (n:Int) (a:SV):ZJ:=[V k,st (B tx),V n,a]
def Qcw (A:ZI) (tc fc:ZJ) (tx:ZG) (r:Bool) (lo:AO) (L:ZI):ZI :=
 A++⟨tc,52,0,true⟩::⟨fc,52,0,true⟩::⟨[st (B tx)],9,0,true⟩::⟨[bl r],4,0,true⟩::lo::L
def e25 (A:ZI) (c:SV):Env:=[(1,.ptr (.own (A.length+1) 0 0 0 0) 0),(2,.ptr (.own A.length 0 0 0 0) 0),(3,.ptr (.own (A.length+2) 0 0 0 0) 0),(4,.ptr (.own (A.length+3) 0 0 0 0) 0),(27,c)]
section
variable {A:ZI} {tx:ZG}
theorem Qv6 {c a:SV} {k n:Int} {t:Tok} (L:ZI) :
 YlP Tryz.prog (A.length+4) [t.v,.val .nilIface] (Qcw A (tC k tx n a) zC tx false (lpo Tryz.prog 46 Qf 1 [28,29] QdI Qdt ((e25 A c).vals 46) .ready) L) λo H' =>
  o=.ret (bl false)/\∃ cs L,H'=Qcw A (tC k tx n a) t.c tx (decide (t.tx=tx)&&decide (t.k=k)) (lpo Tryz.prog 46 Qf 1 [28,29] QdI Qdt cs .ret) L:=by
 refine Qjd (N:=46) (U:=e25 A c) hm QdI.eq_1 Qdt.eq_1 (by simp[Qcw]; rfl) (by simp[e25]) (by decide) rfl λZ => ?_;generalize hlo:lpo Tryz.prog 46 Qf 1 [28,29] QdI Qdt ((e25 A c).vals 46) .ready=lo;simp[e25,Qcw,tC,zC,Tok.v,Tok.c];refine⟨_,hlo.symm,_,by simp; rfl,.ret,false,_,⟨rfl,rfl⟩,⟨rfl,(e25 A c).vals 46,L++[⟨t.c,52,0,true⟩],rfl⟩,QiU ?_⟩;simp[e25,Tok.c]
theorem Qyx {c a:SV} {k n e:Int} {p:Nat} (L:ZI) :
 YlP Tryz.prog (A.length+4) [zT,.ifc 115 (QG e p)] (Qcw A (tC k tx n a) zC tx false (lpo Tryz.prog 46 Qf 1 [28,29] QdI Qdt ((e25 A c).vals 46) .ready) L) λo H' =>
  o=.ret (bl false)/\∃ cs L,H'=Qcw A (tC k tx n a) zC tx false (lpo Tryz.prog 46 Qf 1 [28,29] QdI Qdt cs .ret) L:=by
 refine Qjd (N:=46) (U:=e25 A c) hm QdI.eq_1 Qdt.eq_1 (by simp[Qcw]; rfl) (by simp[e25]) (by decide) rfl λZ => ?_;generalize hlo:lpo Tryz.prog 46 Qf 1 [28,29] QdI Qdt ((e25 A c).vals 46) .ready=lo;simp[e25,Qcw,tC,zC,zT];refine⟨_,hlo.symm,_,by simp; rfl,.ret,false,_,⟨rfl,rfl⟩,⟨rfl,(e25 A c).vals 46,L++[⟨zC,52,0,true⟩],rfl⟩,QiU ?_⟩;simp[e25,zC]
def Q3 (k:Int) (tx:ZG):Bool×ZJ :=
 if tx=[]\/40<tx.length\/ao tx 0=1\/tx.getD 0 0=35 then(false,zC)else
  match Qw tx 0 with
  |.tok t _=>(decide (t.tx=tx)&&decide (t.k=k),t.c)
  |_=>(false,zC)
end
abbrev o25 (c:ZJ):AO:=⟨c,52,0,true⟩
theorem QDK {A:ZI} {x o o':AO} (h:closed (A++[x,o])) (hu:∀ s∈o'.cells,s.under (A.length+2)=true):closed (A++[x,o']):=by
 intro i p hp s hs;have e:(A++[x,o']).length=(A++[x,o]).length:=by simp
 rw[e];by_cases hi:i=A.length+1
 . subst hi;have:p=o':=by simpa using hp.symm
   subst this;simpa using hu s hs
 . have:(A++[x,o])[i]? = some p:=by
    rcases Vx i (A.length+1)with h1|h1
    . rw[show A++[x,o']=(A++[x])++[o']by simp,Vc (by simp; omega)]at hp;rw[show A++[x,o]=(A++[x])++[o]by simp,Vc (by simp; omega)];exact hp
    . have:=Qk hp;simp at this; omega
   exact h i p this s hs
section
variable {A:ZI} {tx:ZG}
theorem QyV (hl:tx.length<4611686018427387904) (k n:Int) (a:SV) :
 Ok Tryz.prog 170 [st (B tx),.ptr (.own (A.length+1) 0 0 0 0) 0,.ptr (.own A.length 0 0 0 0) 0] (A++[o25 (tC k tx n a),o25 zC]) (.ret (bl (Q3 k tx).1)) (A++[o25 (tC k tx n a),o25 (Q3 k tx).2]):=by
 refine Qt hm Tryz.func170 c170 (by simp) λZ => ?_;have fin:∀ {b:Bool} {fc:ZJ} {L:ZI},Q3 k tx=(b,fc)->(∀ s∈fc,s.under (A.length+2)=true) ->
  Cv (A++[o25 (tC k tx n a),o25 zC]).length (bl b) (A++o25 (tC k tx n a)::o25 fc::L) (bl (Q3 k tx).1) (A++[o25 (tC k tx n a),o25 (Q3 k tx).2]):=by
  intro b fc L h hu;rw[h];have:=Qq (H:=A++[o25 (tC k tx n a),o25 fc]) (L:=L) (n0:=(A++[o25 (tC k tx n a),o25 zC]).length) (r1:=bl b) (r:=bl b) 4 (QDK Z hu) (by simp) (by simp);simpa using this
 have hz:∀ s∈zC,s.under (A.length+2)=true:=by intro s hs; simp[zC]at hs; rcases hs with rfl|rfl|rfl|rfl<;>rfl
 by_cases h1:tx=[]
 . have hr:Q3 k tx=(false,zC):=by unfold Q3; rw[Zr (.inl h1)]
   have f:=λL=>fin (L:=L) hr hz;generalize Q3 k tx=g at f hr;subst h1;simp -implicitDefEqProofs[QjO,Qk0];refine Qcf _ _ _ _ ?_;simp -implicitDefEqProofs;exact(by simpa using f _)
 have hpos:0<tx.length:=Yl.2 h1;have hg:tx.getD 0 0=tx[0]:=by simp[hpos]
 have f1:((tx[0].toNat:Int)=35)↔tx[0]=35:=u8i tx[0] 35;by_cases h2:40<tx.length
 . have hr:Q3 k tx=(false,zC):=by unfold Q3; rw[Zr (.inr (.inl h2))]
   have f:=λL=>fin (L:=L) hr hz;have h2':(40:Int)<tx.length:=by omega
   simp -implicitDefEqProofs[QjO,Qk0,h1,h2'];refine Qcf _ _ _ _ ?_;simp -implicitDefEqProofs;exact(by simpa using f _)
 have h2':¬ (40:Int)<tx.length:=by omega
 simp -implicitDefEqProofs[QjO,Qk0,h1,h2',hpos];refine QL (r:=V (cls tx[0].toNat)) (λ_=>by rw[Qpt]; exact Qlj _) ?_;have hca:cls tx[0].toNat=ao tx 0:=(QzZ hpos).symm;by_cases h4:ao tx 0=1
 . have hr:Q3 k tx=(false,zC):=by unfold Q3; rw[Zr (.inr (.inr (.inl h4)))]
   have f:=λL=>fin (L:=L) hr hz;simp -implicitDefEqProofs[hca,h4];exact(by simpa using f _)
 by_cases h5:tx[0]=35
 . have hr:Q3 k tx=(false,zC):=by unfold Q3; rw[Zr (.inr (.inr (.inr (by rw[hg]; exact h5))))]
   have f:=λL=>fin (L:=L) hr hz;simp -implicitDefEqProofs[hpos,h5];exact(by simpa using f _)
 have h5':¬ ((tx[0].toNat:Int)=35):=λh=>h5 (f1.1 h);have hr:Q3 k tx=match Qw tx 0 with
  |.tok t _=>(decide (t.tx=tx)&&decide (t.k=k),t.c)
  |_=>(false,zC):=by unfold Q3; rw[Zq (by rw[hg]; rintro(h|h|h|h)<;>first|contradiction|omega)]<;>cases Qw tx 0<;>rfl
 simp -implicitDefEqProofs[hca,h4,hpos,h5'];refine Qb ok70 ?_;simp -implicitDefEqProofs[QjI];obtain⟨m,hm1⟩:∃ m,tx.length=m+1:=⟨tx.length-1,by omega⟩;have hes:QaA tx=match Qw tx 0 with
  |.skip q=>evs tx m q
  |.tok t q=>.tok t::evs tx m q
  |.flt e=>[.flt e 0]:=by unfold QaA; rw[hm1]; simp only[evs]; rw[Zr (by omega)]<;>cases Qw tx 0<;>rfl
 refine QsD (Pt:=λo H'=>(∃ v,o=.ret v)/\∃ cs L,H'=Qcw A (tC k tx n a) (Q3 k tx).2 tx (Q3 k tx).1 (lpo Tryz.prog 46 Qf 1 [28,29] QdI Qdt cs .ret) L) ?_ ?_
 . refine OkP.cast (args':=[.yl (A.length+4),.ptr (.slc [st (B tx)] 0) 0]) (H':=Qcw A (tC k tx n a) zC tx false (lpo Tryz.prog 46 Qf 1 [28,29] QdI Qdt ((e25 A (.fn (.func 123) [] [.ptr (.slc [st (B tx)] 0) 0])).vals 46) .ready) []) (by simp) (by simp[Qcw,e25]) ?_;refine(QtI (J:=λi H'=>i=0/\∃ L,H'=Qcw A (tC k tx n a) zC tx false (lpo Tryz.prog 46 Qf 1 [28,29] QdI Qdt ((e25 A (.fn (.func 123) [] [.ptr (.slc [st (B tx)] 0) 0])).vals 46) .ready) L)
    (Q:=λH'=>∃ cs L,H'=Qcw A (tC k tx n a) (Q3 k tx).2 tx (Q3 k tx).1 (lpo Tryz.prog 46 Qf 1 [28,29] QdI Qdt cs .ret) L) (y:=A.length+4) (es:=QaA tx) rfl hl ?_ ?_ ?_ ⟨rfl,[],rfl⟩).mono ?_
   . rintro i H' L' ⟨h0,L,rfl⟩;exact⟨h0,L++L',by simp[Qcw]⟩
   . rintro i t H' hi ⟨rfl,L,rfl⟩;have hst:∃ q,Qw tx 0=.tok t q:=by
      rw[hes]at hi
      cases hs:Qw tx 0 with
      |skip q=>exact(QlF h4 (by rw[hg]; exact h5) hs).elim
      |tok t' q=>rw[hs]at hi; simp at hi; exact⟨q,by rw[hi]⟩
      |flt e=>rw[hs]at hi; simp at hi
     obtain⟨q,hst⟩:=hst;rw[hst]at hr;refine(Qv6 (c:=.fn (.func 123) [] [.ptr (.slc [st (B tx)] 0) 0]) (a:=a) (k:=k) (n:=n) (t:=t) L).mono ?_;rintro o H' ⟨rfl,cs,L',rfl⟩;exact .inr ⟨rfl,cs,L',by rw[hr]⟩
   . rintro i e p H' hi ⟨rfl,L,rfl⟩;have hst:Qw tx 0=.flt e:=by
      rw[hes]at hi
      cases hs:Qw tx 0 with
      |skip q=>exact(QlF h4 (by rw[hg]; exact h5) hs).elim
      |tok t' q=>rw[hs]at hi; simp at hi
      |flt e'=>rw[hs]at hi; simp at hi; rw[hi.1]
     rw[hst]at hr;refine(Qyx (c:=.fn (.func 123) [] [.ptr (.slc [st (B tx)] 0) 0]) (a:=a) (k:=k) (n:=n) (e:=e) (p:=p) L).mono ?_;rintro o H' ⟨rfl,cs,L',rfl⟩;exact⟨⟨_,rfl⟩,cs,L',by rw[hr]⟩
   . rintro o H' ⟨hv,(⟨h0,_⟩|hq)⟩
     . exfalso;have:=Zt List.length hes
       cases hs:Qw tx 0 with
       |skip q=>exact QlF h4 (by rw[hg]; exact h5) hs
       |tok t' q=>rw[hs,h0]at this; simp at this
       |flt e'=>rw[hs,h0]at this; simp at this
     . exact⟨hv,hq⟩
 . rintro out H' ⟨⟨v,rfl⟩,cs,L,rfl⟩;refine⟨.ret,_,by simp[Qcw]; rfl,?_⟩;simp -implicitDefEqProofs[Qcw];have hsu:∀ s∈(Q3 k tx).2,s.under (A.length+2)=true:=by
    rw[hr]
    cases Qw tx 0 with
    |tok t q=>intro s hs; simp[Tok.c]at hs; rcases hs with rfl|rfl|rfl|rfl<;>rfl
    |skip q=>exact hz
    |flt e=>exact hz
   have f:=λL=>fin (L:=L) (b:=(Q3 k tx).1) (fc:=(Q3 k tx).2) rfl hsu;exact(by simpa using f _)
end
section
variable {A H:ZI} {tx:ZG}
theorem QvF (hl:tx.length<4611686018427387904) (k n e:Int) (a:SV) :
 Ok Tryz.prog 171 [st (B tx),.fn (.func 170) [] [.ptr (.own (A.length+1) 0 0 0 0) 0,.ptr (.own A.length 0 0 0 0) 0],V e] (A++[o25 (tC k tx n a),o25 zC]) (.ret (V (if(Q3 k tx).1=true then 0 else e))) (A++[o25 (tC k tx n a),o25 (Q3 k tx).2]):=by
 refine Qt hm Tryz.func171 c171 (by simp) λZ => ?_;simp[i171,r171];refine Qb (QyV (A:=A) hl k n a) ?_;by_cases hb:(Q3 k tx).1=true
 . simp[hb];exact Qi
 . rw[Vm]at hb;simp[hb];exact Qi
theorem QyM {fc:ZJ} {o:AO} (m:Int) (n:Int) (hf:fc.getD 2 .any=V m) (hlen:fc.length=4):Ok Tryz.prog 173 [V n,.ptr (.own (A.length+1) 0 0 0 0) 0] (A++[o,o25 fc]) (.ret (bl (decide (n=m)))) (A++[o,o25 fc]):=by
 refine Qt hm Tryz.func173 c173 (by simp) λZ => ?_
 match fc,hlen with
 |[x0,x1,x2,x3],_ =>
  have:x2=V m:=by simpa using hf
  subst this;simp[i173,r173];exact Qi
theorem QzO {fc:ZJ} {o:AO} (m n e:Int) (hf:fc.getD 2 .any=V m) (hlen:fc.length=4) :
 Ok Tryz.prog 172 [V n,.fn (.func 173) [] [.ptr (.own (A.length+1) 0 0 0 0) 0],V e] (A++[o,o25 fc]) (.ret (V (if n=m then 0 else e))) (A++[o,o25 fc]):=by
 refine Qt hm Tryz.func172 c172 (by simp) λZ => ?_;simp[i172,r172];refine Qb (QyM (A:=A) m n hf hlen) ?_;by_cases hb:n=m
 . simp[hb];exact Qi
 . simp[hb];exact Qi
end
theorem QoU {l:ZG} {p q q':Nat} {k:Int} {t:Tok} (h:QN l p k q=.tok t q'):t.tx=cut l p q/\(whE l k (cut l p q) p).1=0:=by
 unfold QN at h;split at h
 . cases h
 . rename_i hn; cases h; exact⟨rfl,by simpa using hn⟩
theorem Qxe {l:ZG} {p q:Nat} {t:Tok} (hp:p<l.length) (h:Qw l p=.tok t q):t.tx=cut l p q/\1<=t.k/\t.k<=3/\q-p<=40:=by
 have hq:=mkq h hp;unfold Qw at h;split at h
 . cases h
 . split at h
   . have hk:=Qbz h;have hx:=QoU h;obtain⟨rfl,hk,_⟩:=hk;refine⟨hx.1,by omega,by omega,?_⟩;have hlen:=Qm7 (l:=l) (Nat.le_of_lt hq.1) hq.2;rcases Vx 40 (Q8 l [2,3] p-p)with h40|h40
     . have h2:=hx.2;unfold whE at h2;rw[hlen]at h2;split at h2
       . cases h2
       . rw[Zr ⟨rfl,h40⟩]at h2; cases h2
     . exact h40
   . split at h
     . have hk:=Qbz h;have hx:=QoU h;obtain⟨rfl,hk,_⟩:=hk;refine⟨hx.1,by omega,by omega,?_⟩;have hlen:=Qm7 (l:=l) (Nat.le_of_lt hq.1) hq.2;rcases Vx 10 (Q8 l [3] p-p)with h10|h10
       . exfalso;have h2:=hx.2;unfold whE at h2;split at h2
         . cases h2
         . rw[Zq (λh=>absurd h.1 (by decide)),Zq (by decide)]at h2;split at h2
           . cases h2
           . rename_i hz;have hv:=QBK (tx:=cut l p (Q8 l [3] p)) Qjr (by omega) (λh=>hz ⟨by omega,h⟩);rw[(QCg (tx:=cut l p (Q8 l [3] p)) (m:=0) Qjr (by omega) (by omega)).2 hv]at h2
             cases h2
       . omega
     . split at h
       . have hk:=Qbz h;have hx:=QoU h;obtain⟨rfl,hk,_⟩:=hk;refine⟨hx.1,by omega,by omega,?_⟩;unfold Qbo;split
         . omega
         . split<;>omega
       . split at h
         . cases h
         . have hk:=(Qbz h).1;omega
theorem QEy {k n m:Int} {tx:ZG} (hm:(Q3 k tx).2.getD 2 .any=V m):(if(Q3 k tx).1=true then(if n=m then 0 else 2)else 3)=Qbs k tx n:=by
 have e3:(Q3 k tx).1=false->Qbs k tx n=3->(if(Q3 k tx).1=true then(if n=m then 0 else 2)else 3)=Qbs k tx n:=λa b=>by rw[a,b]; simp
 by_cases h1:tx=[]
 . exact e3 (by unfold Q3; rw[Zr (.inl h1)]) (by unfold Qbs; rw[Zr (.inl h1)])
 have hpos:0<tx.length:=Yl.2 h1;by_cases h4:ao tx 0=1
 . exact e3 (by unfold Q3; rw[Zr (.inr (.inr (.inl h4)))]) (by unfold Qbs; rw[Zr (.inr (.inr (.inr (.inl h4))))])
 by_cases h5:tx.getD 0 0=35
 . exact e3 (by unfold Q3; rw[Zr (.inr (.inr (.inr h5)))]) (by unfold Qbs; rw[Zr (.inr (.inr (.inr (.inr h5))))])
 cases hst:Qw tx 0 with
 |skip q=>exact(QlF h4 h5 hst).elim
 |flt e=>exact e3 (by unfold Q3; rw[hst]; split<;>rfl) (by unfold Qbs; rw[hst]; split<;>rfl)
 |tok t q =>
  obtain⟨g1,g2,g3,g4⟩:=Qxe hpos hst;have hq:=mkq hst hpos;have hcut:cut tx 0 q=tx.take q:=by simp[cut]
  have hx:t.tx=tx↔q=tx.length:=by
   rw[g1,hcut];constructor
   . intro h; have:=Zt List.length h; simp at this; omega
   . intro h; rw[h,VI]
  by_cases hk:k<1\/3<k
  . refine e3 ?_ (by unfold Qbs; rw[Zr (by rcases hk with h|h; exact .inr (.inl h); exact .inr (.inr (.inl h)))]);unfold Q3; rw[hst]; split
    . rfl
    . have:¬ t.k=k:=by omega
      simp[this]
  . have hc:Qbs k tx n=if q≠tx.length\/t.k≠k then 3 else if t.n≠n then 2 else 0:=by
     unfold Qbs; rw[Zq (by rintro(h|h|h|h|h)<;>first|contradiction|omega),hst]
    by_cases h40:40<tx.length
    . exact e3 (by unfold Q3; rw[Zr (.inr (.inl h40))]) (by rw[hc,Zr (.inl (by omega))])
    . have hs:Q3 k tx=(decide (t.tx=tx)&&decide (t.k=k),t.c):=by
       unfold Q3; rw[Zq (by rintro(h|h|h|h)<;>first|contradiction|omega),hst]
      have hmm:m=t.n:=by
       rw[hs]at hm;have:V t.n=V m:=hm;unfold V at this
       cases this; rfl
      by_cases a1:q=tx.length
      . by_cases a2:t.k=k
        . have e:(decide (t.tx=tx)&&decide (t.k=k))=true:=by simp[hx.2 a1,a2]
          have hc2:Qbs k tx n=if t.n≠n then 2 else 0:=by rw[hc,Zq (by rintro(h|h)<;>contradiction)]
          rw[hs,hc2,hmm];simp only[e,Zv];by_cases a3:n=t.n
          . simp[a3]
          . rw[Zq a3,Zr (λh:t.n=n=>a3 h.symm)]
        . exact e3 (by rw[hs]; simp[a2]) (by rw[hc,Zr (.inr a2)])
      . have hne:¬ t.tx=tx:=λh=>a1 (hx.1 h);exact e3 (by rw[hs]; simp[hne]) (by rw[hc,Zr (.inl a1)])
theorem QDA (k:Int) (tx:ZG):∃ m,(Q3 k tx).2.getD 2 .any=V m/\(Q3 k tx).2.length=4:=by
 unfold Q3;split
 . exact⟨0,rfl,rfl⟩
 . split
   . rename_i t _ _; exact⟨t.n,rfl,rfl⟩
   . exact⟨0,rfl,rfl⟩
section
variable {H:ZI} {tx:ZG}
theorem QCJ (hl:tx.length<4611686018427387904) (k n:Int) (a:SV) (ha:a.isCell=true):Ok Tryz.prog 134 [.agg [V k,st (B tx),V n,a]] H (.ret (V (Qbs k tx n))) H:=by
 refine Qt hm Tryz.func134 c134 (by simp) λZ => ?_;obtain⟨m,hm1,hm2⟩:=QDA k tx;rw[<-QEy (k:=k) (n:=n) (tx:=tx) hm1];simp[i134,r134,ha];refine Qb (QvF (A:=H) hl k n 3 a) ?_;by_cases hb:(Q3 k tx).1=true
 . simp[hb,tC];refine Qb (QzO (A:=H) m n 2 hm1 hm2) ?_;by_cases hn:n=m
   . simp[hn];exact Qq 4 Z rfl (by simp)
   . simp[hn];exact Qq 4 Z rfl (by simp)
 . rw[Vm]at hb;simp[hb];exact Qq 4 Z rfl (by simp)
end
def sgn2:ZF:=[[42],[47],[37],[43],[45],[61,61],[33,61],[60],[60,61],[62],[62,61],[97,110,100],[111,114]]
def QW (op:Int):ZG×Int :=
 if op=3 then([45],1)else if op=4 then([110,111,116],1)else if op=18 then([109,105,110],2)else if op=19 then([109,97,120],2)
 else if op=20 then([105,102],3)else if op<5\/17<op then([],0)else(sgn2.getD (op-5).toNat [],2)
def Qdm (op:Int):Bool:=decide (op=18)||decide (op=19)||decide (op=20)
def QaR (s:ZG):Bool:=decide (Qbs 1 s 0=0) && !decide (s∈QaB)
def Qda:Ex->Bool
 |.mk op n nm l _ =>
  if op=1 then decide (nm=[])&&decide (l=[])&&decide (0<=n/\n<=1000000000)
  else if op=2 then decide (n=0)&&decide (l=[])&&QaR nm
  else decide (0<(QW op).2)&&decide ((l.length:Int)=(QW op).2)&&decide (n=0)&&decide (nm=[])
def Ex.nmE:Ex->ZG
 |.mk _ _ nm _ _=>nm
section
variable {H:ZI}
theorem Qrj (a n b:Int):Ok Tryz.prog 102 [V a,V n,V b] H (.ret (bl (decide (a<=n/\n<=b)))) H:=by
 refine Qt hm Tryz.func102 c102 (by simp) λZ => ?_;by_cases h:a<=n
 . simp -implicitDefEqProofs[Qn2,Qn5,h];exact Qi
 . simp -implicitDefEqProofs[Qn2,Qn5,h];exact Qi
theorem Qtb (op:Int):Ok Tryz.prog 132 [V op] H (.ret (bl (Qdm op))) H:=by
 refine Qt hm Tryz.func132 c132 (by simp) λZ => ?_;unfold Qdm;by_cases h:op=18
 . simp -implicitDefEqProofs[QkI,QkB,h];exact Qi
 . by_cases h2:op=19
   . simp -implicitDefEqProofs[QkI,QkB,h2];exact Qi
   . simp -implicitDefEqProofs[QkI,QkB,h,h2];exact Qi
theorem Qu1 (op:Int):Ok Tryz.prog 131 [V op] H (.ret (.tup [st (B (QW op).1),V (QW op).2])) H:=by
 refine Qt hm Tryz.func131 c131 (by simp) λZ => ?_;by_cases h1:op=3
 . subst h1; simp -implicitDefEqProofs[QeU,Qfh,QW]; exact Qi
 by_cases h2:op=4
 . subst h2; simp -implicitDefEqProofs[QeU,Qfh,QW]; exact Qi
 by_cases h3:op=18
 . subst h3; simp -implicitDefEqProofs[QeU,Qfh,QW]; exact Qi
 by_cases h4:op=19
 . subst h4; simp -implicitDefEqProofs[QeU,Qfh,QW]; exact Qi
 by_cases h5:op=20
 . subst h5; simp -implicitDefEqProofs[QeU,Qfh,QW]; exact Qi
 by_cases h6:op<5
 . simp -implicitDefEqProofs[QeU,Qfh,QW,h1,h2,h3,h4,h5,h6]; exact Qi
 by_cases h7:17<op
 . simp -implicitDefEqProofs[QeU,Qfh,QW,h1,h2,h3,h4,h5,h6,h7]; exact Qi
 obtain⟨k,rfl⟩:∃ k:Nat,op=(k:Int)+5:=⟨(op-5).toNat,by omega⟩;have hk:k<13:=by omega
 have w:IntKind.i64.wrap ((k:Int)+5-5)=k:=by
  have:(k:Int)+5-5=k:=by omega
  rw[this]; exact QfM (by omega)
 have w2:IntKind.i64.wrap (k:Int)=k:=QfM (by omega);have hk':(k:Int)<13:=by omega
 simp -implicitDefEqProofs[QeU,Qfh,h1,h2,h3,h4,h5,h6,h7,w2,hk,hk'];refine⟨by omega,Qq 3 Z rfl ?_⟩;have e:QW ((k:Int)+5)=(sgn2.getD k [],2):=by
  unfold QW;rw[Zq h1,Zq h2,Zq h3,Zq h4,Zq h5,Zq (by omega)];have:((k:Int)+5-5).toNat=k:=by omega
  rw[this]
 rw[e];have:k=0\/k=1\/k=2\/k=3\/k=4\/k=5\/k=6\/k=7\/k=8\/k=9\/k=10\/k=11\/k=12:=by omega
 rcases this with rfl|rfl|rfl|rfl|rfl|rfl|rfl|rfl|rfl|rfl|rfl|rfl|rfl<;>rfl
theorem QqQ {s:ZG} (hl:s.length<4611686018427387904):Ok Tryz.prog 101 [st (B s)] H (.ret (bl (QaR s))) H:=by
 refine Qt hm Tryz.func101 c101 (by simp) λZ => ?_;simp -implicitDefEqProofs[i101,r101];refine Qb (QCJ hl 1 0 (V 0) rfl) ?_;by_cases h:Qbs 1 s 0=0
 . simp -implicitDefEqProofs[h];refine QL (r:=bl (decide (s∈QaB))) (λ_=>Qrx s) ?_;simp -implicitDefEqProofs[h];have e:QaR s = !decide (s∈QaB):=by simp[QaR,h]
   rw[e]; exact Qi
 . simp -implicitDefEqProofs[h];refine Qcf _ _ _ _ ?_;simp -implicitDefEqProofs;have e:QaR s=false:=by simp[QaR,h]
   rw[e]; exact Qi
theorem QBr {e:Ex} (hs:Qda e=true) (hnm:e.nmE.length<4611686018427387904):Ok Tryz.prog 130 [e.v] H (.ret (bl true)) H:=by
 obtain⟨op,n,nm,l,p⟩:=e;refine Qt hm Tryz.func130 c130 (by simp) λZ => ?_;simp only[Qda]at hs;by_cases h1:op=1
 . rw[Zr h1]at hs;simp only[Va,Zs]at hs;obtain⟨⟨rfl,rfl⟩,h3,h4⟩:=hs;subst h1;simp -implicitDefEqProofs[QjT,Qj8,Ex.v,Ex.c];refine QL (r:=bl true) (λ_=>by have h:=λH=>Qrj (H:=H) 0 n 1000000000; rw[decide_eq_true (And.intro h3 h4)]at h; exact h _) ?_;simp -implicitDefEqProofs;exact Qq 3 Z rfl (by simp)
 by_cases h2:op=2
 . rw[Zq h1,Zr h2]at hs;simp only[Va,Zs]at hs;obtain⟨⟨rfl,rfl⟩,h3⟩:=hs;subst h2;simp -implicitDefEqProofs[QjT,Qj8,Ex.v,Ex.c];refine QL (r:=bl true) (λ_=>by have h:=λH=>QqQ (H:=H) (s:=nm) hnm; rw[h3]at h; exact h _) ?_;simp -implicitDefEqProofs;exact Qq 3 Z rfl (by simp)
 rw[Zq h1,Zq h2]at hs;simp only[Va,Zs]at hs;obtain⟨⟨⟨h3,h4⟩,rfl⟩,rfl⟩:=hs;simp -implicitDefEqProofs[QjT,Qj8,Ex.v,Ex.c,h1,h2];refine Qb (Qu1 op) ?_;simp -implicitDefEqProofs[h3,h4];exact Qq 3 Z rfl (by simp)
end
def byO (o:ZG) (v:Nat):AO:=⟨Qag (B o),5,v,true⟩
def prO (q n v:Nat):AO:=⟨[.own q 0 n 1 v],85,0,true⟩
structure PrA (G:ZI) (j q:Nat) (o:ZG) (v:Nat):Prop where
 h1:G[j]? = some (prO q o.length v)
 h2:G[q]? = some (byO o v)
 h3:j≠q
def wr (G:ZI) (j q:Nat) (o:ZG) (v:Nat):ZI:=(G.set j (prO q o.length v)).set q (byO o v)
@[simp] theorem wr_len (G:ZI) (j q:Nat) (o:ZG) (v:Nat):(wr G j q o v).length=G.length:=by simp[wr]
theorem QjF (o:ZG):(Qag (B o)).length=o.length:=by simp[Qag]
section
variable {G H:ZI} {j q v:Nat} {o:ZG}
theorem PrA.lj (h:PrA G j q o v):j<G.length:=Qk h.h1
theorem PrA.lq (h:PrA G j q o v):q<G.length:=Qk h.h2
theorem PrA.wr (h:PrA G j q o v) (o':ZG) (v':Nat):PrA (wr G j q o' v') j q o' v':=by
 have hj:=h.lj; have hq:=h.lq; have hne:=h.h3;refine⟨?_,?_,hne⟩
 . unfold Proofs.YtmkdpmfhlfhjkaaGreatDoor.wr;rw[Vg (λe=>hne e.symm),Vq hj]
 . unfold Proofs.YtmkdpmfhlfhjkaaGreatDoor.wr;rw[Vq (by simpa using hq)]
theorem PrA.app (h:PrA G j q o v) (L:ZI):PrA (G++L) j q o v :=
 ⟨by rw[Vc h.lj]; exact h.h1,by rw[Vc h.lq]; exact h.h2,h.h3⟩
theorem PrA.same (h:PrA G j q o v):Proofs.YtmkdpmfhlfhjkaaGreatDoor.wr G j q o v=G:=by
 unfold Proofs.YtmkdpmfhlfhjkaaGreatDoor.wr;rw[QcZ h.h1,QcZ h.h2]
theorem QkP (hne:j≠q) (o':ZG) (v':Nat):wr (wr G j q o v) j q o' v'=wr G j q o' v':=by
 unfold wr;rw[List.set_comm _ _ (λe=>hne e.symm),VF,VF]
theorem Qi3 (hj:j<G.length) (hq:q<G.length) (L:ZI):wr (G++L) j q o v=wr G j q o v++L:=by
 unfold wr;rw[Vn _ _ hj,Vn _ _ (by simpa using hq)]
theorem Qyt (h:closed G) (hq:q<G.length):closed (wr G j q o v):=by
 unfold wr;refine Qfw (Qfw h j ?_) q ?_
 . simp[prO,SV.underL,SV.under,hq]
 . rw[SV.underL_iff];intro s hs;simp only[byO,Qag,VC]at hs;obtain⟨b,_,rfl⟩:=hs; rfl
theorem QCu {l:ZF} {i:Nat} (h:i<l.length):(l.take (i+1)).flatten=(l.take i).flatten++l[i]:=by
 rw[<-Y6 h,Zi]; simp
theorem QDD {hne:j≠q} {o s:ZG} {v:Nat}:((wr H j q o v).set q ⟨(byO o v).cells++Qag (B s),(byO o v).ty,(byO o v).ver+1,(byO o v).live⟩).set j
     ⟨.own q 0 (o.length+s.length) 1 (v+1)::(prO q o.length v).cells.tail,(prO q o.length v).ty,(prO q o.length v).ver,(prO q o.length v).live⟩=wr H j q (o++s) (v+1):=by
 have e1:(⟨(byO o v).cells++Qag (B s),(byO o v).ty,(byO o v).ver+1,(byO o v).live⟩:AO)=byO (o++s) (v+1):=by simp[byO,Qag]
 have e2:(⟨.own q 0 (o.length+s.length) 1 (v+1)::(prO q o.length v).cells.tail,(prO q o.length v).ty,(prO q o.length v).ver,(prO q o.length v).live⟩:AO)=prO q (o++s).length (v+1):=by simp[prO]
 rw[e1,e2];unfold wr;rw[VF,List.set_comm _ _ (λe=>hne e.symm),VF]
theorem Qwz (hp:PrA H j q o v) {x:SV} {l:ZF} (hx:∀ o v,IsS (wr H j q o v) x l) (hl:l.length<4611686018427387904) (hL:o.length+l.flatten.length<=140737488355328) {N:Nat} {K:ZH}
 (ai:∀ U,K (.exit 0) U (wr H j q (o++l.flatten) (v+l.length))) :
 ∀ (m i:Nat) (U:Env),i+m=l.length->U.get 0=rp j->U.get 6=x->U.get 7=V l.length->U.get 8=V i->LI Tryz.prog N Qf Ql6 U (wr H j q (o++(l.take i).flatten) (v+i)) K:=by
 intro m
 induction m with
 |zero =>
  intro i U hi h0 h6 h7 h8;refine Qp hm Ql6.eq_1 ?_;have e:i=l.length:=by omega
  subst e;simp[h0,h6,h7,h8];exact ai _
 |succ m ih =>
  intro i U hi h0 h6 h7 h8;refine Qp hm Ql6.eq_1 ?_;have hlt:i<l.length:=by omega
  have ax:(i:Int)<l.length:=by omega
  have hxo:=hx (o++(l.take i).flatten) (v+i);have hv:=hxo.vA [] hlt;have ho:=hxo.okA [] hlt;simp only[VE]at hv ho;have htk:(l.take (i+1)).flatten=(l.take i).flatten++l[i]:=QCu hlt;have hle:((l.take i).flatten++l[i]).length<=l.flatten.length:=by
   rw[<-htk];conv=>rhs; rw[<-Ys (i+1) l]
   rw[Zi,Vj]; omega
  rw[Vj]at hle;have ih:=ih (i+1);rw[htk]at ih;generalize l[i]=s at hv htk hle ih;have hw:=hp.wr (o++(l.take i).flatten) (v+i);generalize ho':o++(l.take i).flatten=o' at hw hxo hv ho;have ho'l:o'.length=o.length+(l.take i).flatten.length:=by rw[<-ho',Vj]
  have e1:Qo (wr H j q o' (v+i)) j 0=[.own q 0 o'.length 1 (v+i)]:=Q7 hw.h1 rfl;have e2:QbC (wr H j q o' (v+i)) q (v+i) 5 (o'.length*1):=⟨_,hw.h2,rfl,rfl,rfl,by simp[byO,QjF]⟩;have e3:∀ f,Ab.setObj (wr H j q o' (v+i)) q f=(wr H j q o' (v+i)).set q (f (byO o' (v+i))):=λf=>Qcn hw.h2 f;have e4:∀ (y:AO) f,Ab.setObj ((wr H j q o' (v+i)).set q y) j f=((wr H j q o' (v+i)).set q y).set j (f (prO q o'.length (v+i))):=λy f=>Qcn (by rw[Vg (λe=>hp.h3 e.symm)]; exact hw.h1) f;have e5:∀ (y:AO),Qo ((wr H j q o' (v+i)).set q y) j 0=[.own q 0 o'.length 1 (v+i)]:=λy=>Q7 (o:=prO q o'.length (v+i)) (by rw[Vg (λe=>hp.h3 e.symm)]; exact hw.h1) rfl;simp[h0,h6,h7,h8,ax,hxo.vd,hxo.ug,hxo.sl,hxo.len,hv,ho,rp,e1,e3,e4,e5];refine⟨by omega,by simpa using e2,LI.cong (QDD (hne:=hp.h3)).symm ?_⟩;subst ho';rw[Vr];exact ih _ (by omega) (by simp[rp]) (by simp) (by simp) (by simp[Qaj (show i<9223372036854775807 by omega)])
theorem QxX (hp:PrA H j q o v) {x:SV} {l:ZF} (hx:∀ o v,IsS (wr H j q o v) x l) (hl:l.length<4611686018427387904) (hL:o.length+l.flatten.length<=140737488355328) :
 Ok Tryz.prog 105 [rp j,x] H (.ret (.tup [])) (wr H j q (o++l.flatten) (v+l.length)):=by
 have hxo:=hx o v;rw[hp.same]at hxo;have hj:=hp.lj;refine Qt hm Tryz.func105 c105 (by simp[rp]) λZ => ?_;simp[i105,r105,hxo.vd,hxo.ug,hxo.sl,hxo.len];refine LI.cong (H':=wr H j q (o++(l.take 0).flatten) (v+0)) (by simpa using hp.same) ?_;refine Qwz hp hx hl hL (λU => ?_) l.length 0 _ (by omega) (by simp) (by simp) (by simp) (by simp);simp;exact Qi
theorem Qm3 (hp:PrA H j q o v):Ok Tryz.prog 51 [rp j] H (.ret (bl (decide (20000<o.length)))) H:=by
 have hj:=hp.lj;have e1:Qo H j 0=[.own q 0 o.length 1 v]:=Q7 hp.h1 rfl;refine Qt hm Tryz.func51 c51 (by simp[rp]) λZ => ?_;simp[i51,r51,rp,e1];have e:decide ((20000:Int)<o.length)=decide (20000<o.length):=by congr 1; exact propext (by omega)
 rw[e];exact Qi
end
def QaC (n:Int):ZG:=Lib.decDigits n.toNat
def Qct (x:Int×(ZG->ZG)) (o:ZG):ZG :=
 if x.1=1\/x.1=2\/Qdm x.1=true then x.2 o else x.2 (o++[40])++[41]
def QbG:Bool->List (Int×(ZG->ZG))->ZG->ZG
 |_,[],o=>o
 |true,f::r,o=>QbG false r (f.2 o)
 |false,f::r,o=>QbG false r (f.2 (o++[44,32]))
def Qdo (fs:List (Int×(ZG->ZG))) (i:Nat) (o:ZG):ZG :=
 match fs[i]? with
 |some f=>Qct f o
 |none=>o
def Ex.opE:Ex->Int
 |.mk op _ _ _ _=>op
mutual
def az:Ex->ZG->ZG
 |.mk op n nm l _=>λo =>
  if 20000<o.length then o else if op=1 then o++QaC n else if op=2 then o++nm
  else if Qdm op=true then QbG true (prF l) (o++(QW op).1++[40])++[41]
  else if(QW op).2=1 then Qdo (prF l) 0 (o++(QW op).1++[32])
  else Qdo (prF l) 1 (Qdo (prF l) 0 o++[32]++(QW op).1++[32])
def prF:List Ex->List (Int×(ZG->ZG))
 |[]=>[]
 |e::r=>(e.opE,az e)::prF r
end
theorem Qud:∀ l:List Ex,prF l=l.map λe=>(e.opE,az e)
 |[]=>by rw[prF]; rfl
 |e::r=>by rw[prF,Qud r]; rfl
def Qaw (f:ZG->ZG):Prop:=∀ o,o.length<=(f o).length
theorem QlA {x:Int×(ZG->ZG)} (h:Qaw x.2):Qaw (Qct x):=by
 intro o;unfold Qct;split
 . exact h o
 . have:=h (o++[40]);simp at this ⊢; omega
theorem QhY:∀ (fs:List (Int×(ZG->ZG))) (b:Bool),(∀ f∈fs,Qaw f.2)->Qaw (QbG b fs)
 |[],b,_=>by intro o; cases b<;>exact Vb _
 |f::r,b,h=>by
  have hf:=h f (.head _);have hr:=QhY r false (λg hg=>h g (.tail _ hg));intro o
  cases b
  . have h1:=hf (o++[44,32]); have h2:=hr (f.2 (o++[44,32]));simp only[QbG];simp at h1; omega
  . have h1:=hf o; have h2:=hr (f.2 o);simp only[QbG]; omega
theorem Qtp {fs:List (Int×(ZG->ZG))} (h:∀ f∈fs,Qaw f.2) (i:Nat):Qaw (Qdo fs i):=by
 intro o;unfold Qdo;split
 . rename_i f hf;exact QlA (h f (Vw hf)) o
 . exact Vb _
mutual
theorem Qc6:∀ e:Ex,Qaw (az e)
 |.mk op n nm l p=>by
  have h:=QhR l;have h1:=QhY (prF l) true h;have h2:=Qtp h 0;have h3:=Qtp h 1;intro o;unfold az;split
  . exact Vb _
  . split
    . simp
    . split
      . simp
      . split
        . have:=h1 (o++(QW op).1++[40]);simp at this ⊢; omega
        . split
          . have:=h2 (o++(QW op).1++[32]);simp at this ⊢; omega
          . have a:=h2 o;have b:=h3 (Qdo (prF l) 0 o++[32]++(QW op).1++[32]);simp at b ⊢; omega
theorem QhR:∀ (l:List Ex),∀ f∈prF l,Qaw f.2
 |[],f,h=>by rw[prF]at h; cases h
 |e::r,f,h=>by
  rw[prF]at h;rcases Vd.1 h with rfl|h
  . exact Qc6 e
  . exact QhR r f h
end
def NumK (n:Int):Prop:=∀ H,Ok Tryz.prog 106 [V n] H (.ret (st (B (QaC n)))) H
mutual
def Ex.prp:Ex->Prop
 |.mk op n nm l p=>Qda (.mk op n nm l p)=true/\nm.length<4611686018427387904/\(op=1->NumK n)/\Ex.prpL l
def Ex.prpL:List Ex->Prop
 |[]=>True
 |e::r=>e.prp/\Ex.prpL r
end
theorem Qg4:∀ {l:List Ex},Ex.prpL l↔∀ e∈l,e.prp
 |[]=>by simp[Ex.prpL]
 |e::r=>by simp[Ex.prpL,Qg4 (l:=r)]
def PrK (k:ZP) (args:ZJ) (F:ZG->ZG):Prop :=
 ∀ (H:ZI) (j q:Nat) (o:ZG) (v:Nat),PrA H j q o v->(F o).length<=140737488355328 ->
  OkP Tryz.prog k (rp j::args) (wr H j q o v) λout H'=>out=.ret (.tup [])/\∃ v',H'=wr H j q (F o) v'
section
variable {H:ZI} {j q v:Nat} {o:ZG}
@[simp] theorem QAd (L:ZI) (k ver:Nat):Qo (wr H j q o v++L) (H.length+k) ver=Qo L k ver:=by
 have:=QgN (H:=wr H j q o v) (L:=L) (k:=k) (ver:=ver); simpa using this
@[simp] theorem QIS (L:ZI) (ver:Nat):Qo (wr H j q o v++L) H.length ver=Qo L 0 ver:=QAd L 0 ver
@[simp] theorem QIr (L:ZI) (k:Nat) (f:AO->AO):Ab.setObj (wr H j q o v++L) (H.length+k) f=wr H j q o v++Ab.setObj L k f:=by
 have:=QkD (H:=wr H j q o v) (L:=L) (k:=k) (f:=f); simpa using this
theorem PrK.at {k:ZP} {args:ZJ} {F:ZG->ZG} (h:PrK k args F) (hp:PrA H j q o v) (o:ZG) (v:Nat) (L:ZI) (hL:(F o).length<=140737488355328) :
 OkP Tryz.prog k (rp j::args) (wr H j q o v++L) λout H'=>out=.ret (.tup [])/\∃ v',H'=wr H j q (F o) v'++L:=by
 have h1:=h (wr H j q o v++L) j q o v ((hp.wr o v).app L) hL;rw[Qi3 (by simpa using hp.lj) (by simpa using hp.lq),QkP hp.h3]at h1;refine h1.mono ?_;rintro out H' ⟨rfl,v',rfl⟩;refine⟨rfl,v',?_⟩;rw[Qi3 (by simpa using hp.lj) (by simpa using hp.lq),QkP hp.h3]
theorem Qae (hp:PrA H j q o v) (o:ZG) (v:Nat) {L:ZI} {k T n:Nat} {l:ZF} (h:L[k]? = some ⟨wds l,T,0,true⟩) (hn:n=l.length) (hl:l.length<4611686018427387904) (hL:o.length+l.flatten.length<=140737488355328) :
 Ok Tryz.prog 105 [rp j,.own (H.length+k) 0 n 1 0] (wr H j q o v++L) (.ret (.tup [])) (wr H j q (o++l.flatten) (v+l.length)++L):=by
 have h1:=QxX (H:=wr H j q o v++L) ((hp.wr o v).app L) (x:=.own (H.length+k) 0 n 1 0) (l:=l) (λo' v'=>by
  rw[Qi3 (by simpa using hp.lj) (by simpa using hp.lq)];have:=IsS.own1 (H:=wr (wr H j q o v) j q o' v') h hn;simpa using this) hl hL
 rw[Qi3 (by simpa using hp.lj) (by simpa using hp.lq),QkP hp.h3]at h1;exact h1
theorem Qqi (hp:PrA H j q o v) (o:ZG) (v:Nat) (L:ZI):Ok Tryz.prog 51 [rp j] (wr H j q o v++L) (.ret (bl (decide (20000<o.length)))) (wr H j q o v++L):=Qm3 ((hp.wr o v).app L)
theorem Qdf (hp:PrA H j q o v) {o1 o2:ZG} {v1:Nat} (Z:closed (wr H j q o v)) {n0:Nat} (hn:n0=H.length) (L:ZI) (he:o1=o2) :
 ∃ (y:SV) (H'':ZI),((Out.ret y)=.ret (.tup [])/\∃ v',H''=wr H j q o2 v')/\Cv n0 (.tup []) (wr H j q o1 v1++L) y H'':=by
 subst he;refine⟨_,_,⟨rfl,v1,rfl⟩,Qq 3 ?_ (by simpa using hn) (by simp)⟩;have:=Qyt (o:=o1) (v:=v1) (j:=j) Z (by simpa using hp.lq)
 rwa [QkP hp.h3]at this
end
section
variable {H:ZI} {j q v:Nat} {o:ZG}
theorem QoV {e:Ex} (h:PrK 73 [e.v] (az e)):PrK 133 [e.v] (Qct (e.opE,az e)):=by
 intro H j q o v hp hL;obtain⟨op,n,nm,l,p⟩:=e;have hj:=hp.lj; have hq:=hp.lq;refine QaY hm Tryz.func133 c133 (by simp[rp]) λZ => ?_;have hdir:(op=1\/op=2\/Qdm op=true)->Qct (op,az (.mk op n nm l p)) o=az (.mk op n nm l p) o:=λh=>by unfold Qct; rw[Zr h]
 simp only[Ex.opE]at hL ⊢;have key:=h.at hp;by_cases h1:op=1
 . rw[hdir (.inl h1)]at hL ⊢;simp -implicitDefEqProofs[Qkj,Qks,Ex.v,Ex.c,h1];refine Qcf _ _ _ _ ?_;subst h1;simp -implicitDefEqProofs;refine QQ (key o v _ hL) ?_;rintro out H' ⟨rfl,v',rfl⟩;simp -implicitDefEqProofs;exact Qdf hp Z (by simp) _ rfl
 by_cases h2:op=2
 . rw[hdir (.inr (.inl h2))]at hL ⊢;simp -implicitDefEqProofs[Qkj,Qks,Ex.v,Ex.c,h2];refine Qcf _ _ _ _ ?_;subst h2;simp -implicitDefEqProofs;refine QQ (key o v _ hL) ?_;rintro out H' ⟨rfl,v',rfl⟩;simp -implicitDefEqProofs;exact Qdf hp Z (by simp) _ rfl
 simp -implicitDefEqProofs[Qkj,Qks,Ex.v,Ex.c,h1,h2];refine QL (r:=bl (Qdm op)) (λ_=>Qtb op) ?_;by_cases h3:Qdm op=true
 . rw[hdir (.inr (.inr h3))]at hL ⊢;simp -implicitDefEqProofs[h3];refine QQ (key o v _ hL) ?_;rintro out H' ⟨rfl,v',rfl⟩;simp -implicitDefEqProofs;exact Qdf hp Z (by simp) _ rfl
 . have hd:Qct (op,az (.mk op n nm l p)) o=az (.mk op n nm l p) (o++[40])++[41]:=by unfold Qct; rw[Zq (by simp[h1,h2,h3])]
   rw[hd]at hL ⊢;have hg:=Qc6 (.mk op n nm l p) (o++[40]);rw[Vj]at hL;simp at hL hg;rw[Vm]at h3;simp -implicitDefEqProofs[h3];refine Qb (Qae hp o v (k:=1) (l:=[[40]]) rfl rfl (by simp) (by simp; omega)) ?_;simp -implicitDefEqProofs;refine QQ (key (o++[40]) (v+1) _ (by omega)) ?_;rintro out H' ⟨rfl,v',rfl⟩;simp -implicitDefEqProofs;refine Qb (Qae hp _ v' (k:=2) (l:=[[41]]) rfl rfl (by simp) (by simp; omega)) ?_;simp -implicitDefEqProofs;exact Qdf hp Z (by simp) _ rfl
theorem QAp (hp:PrA H j q o v) {l:List Ex} (hl:l.length<=100) (hE:∀ e∈l,PrK 73 [e.v] (az e)) {res:ZG} (hL:res.length<=140737488355328) {N:Nat} {K:ZH}
 (ai:∀ U v L,K (.exit 0) U (wr H j q res v++L)) :
 ∀ (m i:Nat) (o:ZG) (v:Nat) (L:ZI) (U:Env),i+m=l.length->QbG (decide (i=0)) (prF (l.drop i)) o=res->U.get 0=rp j->U.get 6=an l->U.get 7=V l.length->U.get 8=V i->LI Tryz.prog N Qf Qkz U (wr H j q o v++L) K:=by
 intro m
 induction m with
 |zero =>
  intro i o v L U hi hr h0 h6 h7 h8;refine Qp hm Qkz.eq_1 ?_;have e:i=l.length:=by omega
  subst e;rw[V7,prF]at hr;have hr:o=res:=by rw[<-hr]; cases decide (l.length=0)<;>rfl
  subst hr;simp[h0,h6,h7,h8,an];exact ai _ _ _
 |succ m ih =>
  intro i o v L U hi hr h0 h6 h7 h8;refine Qp hm Qkz.eq_1 ?_;have hlt:i<l.length:=by omega
  have ax:(i:Int)<l.length:=by omega
  have hg:=QeC hlt;have hlen:=Qeo l;have he:=hE l[i] (Vp hlt);rw[VN hlt,prF]at hr;have hE':∀ f∈prF (l.drop (i+1)),Qaw f.2:=QhR _;have ih:=ih (i+1);have hg1:=QhY (prF (l.drop (i+1))) false hE';generalize l[i]=e at hg he hr;have hgr:=Qc6 e;have hv:e.v=.agg e.c:=by cases e; rfl
  have he':=λo v L h=>he.at hp o v L h;simp only[hv]at he';by_cases h00:i=0
  . subst h00;have hr:QbG false (prF (l.drop 1)) (az e o)=res:=hr;have h2:=hg1 (az e o);rw[hr]at h2;simp at hg;simp[h0,h6,h7,h8,an,hlt,hg,hlen];refine⟨by omega,QQ (he' o v _ (by omega)) ?_⟩;rintro out H' ⟨rfl,v',rfl⟩;simp[h0,h6,h7,h8,an];refine ih _ v' _ _ (by omega) hr ?_ ?_ ?_ ?_
    . simp
    . simp[an]
    . simp
    . simp; rfl
  . have hr:QbG false (prF (l.drop (i+1))) (az e (o++[44,32]))=res:=by
     rw[<-hr,decide_eq_false h00]; rfl
    have h2:=hg1 (az e (o++[44,32]));have h3:=hgr (o++[44,32]);rw[hr]at h2;rw[Vj]at h3;simp at h3;have hpos:0<i:=by omega
    simp[h0,h6,h7,h8,an,ax,hg,hlen,hpos];refine⟨by omega,Qb (Qae hp o v (k:=L.length+1) (l:=[[44,32]]) (T:=9) (by simp; rfl) rfl (by simp) (by simp; omega)) ?_⟩;simp[h0,h6,h7,h8,an];refine QQ (he' (o++[44,32]) (v+1) _ (by omega)) ?_;rintro out H' ⟨rfl,v',rfl⟩;simp[h0,h6,h7,h8,an];refine ih _ v' _ _ (by omega) (by simpa using hr) ?_ ?_ ?_ ?_;all_goals simp[an,Qaj (show i<9223372036854775807 by omega)]
theorem QtT {l:List Ex} (hl:l.length<=100) (hE:∀ e∈l,PrK 73 [e.v] (az e)):PrK 109 [an l] (QbG true (prF l)):=by
 intro H j q o v hp hL;have hj:=hp.lj;refine QaY hm Tryz.func109 c109 (by simp[rp,an]) λZ => ?_;simp[i109,r109,an];refine LI.cong (H':=wr H j q o v++[]) (by simp) ?_;refine QAp hp hl hE hL (λU v L => ?_) l.length 0 o v [] _ (by omega) (by simp) (by simp) (by simp[an]) (by simp) (by simp);simp;exact Qdf hp Z (by simp) _ rfl
end
section
variable {H:ZI} {j q v:Nat} {o:ZG}
theorem QBv {op n p:Int} {nm:ZG} {l:List Ex} (he:(Ex.mk op n nm l p).prp) (hE:∀ e∈l,PrK 73 [e.v] (az e)):PrK 73 [(Ex.mk op n nm l p).v] (az (.mk op n nm l p)):=by
 intro H j q o v hp hL;have hj:=hp.lj; have hq:=hp.lq;unfold Ex.prp at he;obtain⟨hs,_,hN,_⟩:=he;refine QaY hm Tryz.func73 c73 (by simp[rp]) λZ => ?_;have hG:∀ f∈prF l,Qaw f.2:=QhR l;rw[az]at hL ⊢;by_cases hf:20000<o.length
 . simp only[hf,Zv]at hL ⊢;simp -implicitDefEqProofs[i73,r73,Ex.v,Ex.c];refine Qb (Qqi hp o v _) ?_;simp -implicitDefEqProofs[hf];exact Qdf hp Z (by simp) _ rfl
 simp only[hf,Zx]at hL ⊢;simp -implicitDefEqProofs[i73,r73,Ex.v,Ex.c];refine Qb (Qqi hp o v _) ?_;simp -implicitDefEqProofs[hf];refine Qb (Qu1 op) ?_;by_cases h1:op=1
 . subst h1;simp only[Zv,Vj]at hL ⊢;simp -implicitDefEqProofs;refine Qb (hN rfl _) ?_;simp -implicitDefEqProofs;refine Qb (Qae hp o v (k:=1) (l:=[QaC n]) rfl rfl (by simp) (by simpa using hL)) ?_;simp -implicitDefEqProofs;exact Qdf hp Z (by simp) _ rfl
 by_cases h2:op=2
 . subst h2;simp only[Zv]at hL ⊢;simp -implicitDefEqProofs;refine Qb (Qae hp o v (k:=1) (l:=[nm]) rfl rfl (by simp) (by simpa using hL)) ?_;simp -implicitDefEqProofs;exact Qdf hp Z (by simp) _ rfl
 have hlen:0<(QW op).2/\(l.length:Int)=(QW op).2:=by
  simp only[Qda,h1,h2,Zx,Va,Zs]at hs;exact hs.1.1
 simp only[h1,h2,Zx]at hL ⊢;simp -implicitDefEqProofs[h1,h2];refine Qb (Qtb op) ?_;by_cases h3:Qdm op=true
 . simp only[h3,Zv]at hL ⊢;have hg:=QhY (prF l) true hG (o++(QW op).1++[40]);simp at hL hg;have hl3:l.length<=3:=by
    have:op=18\/op=19\/op=20:=by simp only[Qdm,V6,Zs]at h3; omega
    rcases this with rfl|rfl|rfl<;>simp[QW]at hlen<;>omega
   generalize hsg:(QW op).1=s at *;simp -implicitDefEqProofs;refine Qb (Qae hp o v (k:=1) (l:=[s,[40]]) rfl rfl (by simp) (by simp; omega)) ?_;simp -implicitDefEqProofs;have k109:=λo v L h=>(QtT (by omega) hE).at hp o v L h;simp only[an]at k109;refine QQ (k109 (o++(s++[40])) (v+2) _ (by omega)) ?_;rintro out H' ⟨rfl,v',rfl⟩;simp -implicitDefEqProofs;refine Qb (Qae hp _ v' (k:=2) (l:=[[41]]) rfl rfl (by simp) (by simp; omega)) ?_;simp -implicitDefEqProofs;exact Qdf hp Z (by simp) _ rfl
 rw[Vm]at h3;simp only[h3,Vz,Zx]at hL ⊢;by_cases h4:(QW op).2=1
 . simp only[h4,Zv]at hL ⊢;have hl1:l.length=1:=by omega
   obtain⟨a,rfl⟩:=List.length_eq_one_iff.1 hl1;have k133:=λo v L h=>(QoV (hE a (by simp))).at hp o v L h;have hv:a.v=.agg a.c:=by cases a; rfl
   simp only[hv]at k133;have hgo:=QlA (x:=(a.opE,az a)) (Qc6 a) (o++(QW op).1++[32]);have hnth:∀ o,Qdo (prF [a]) 0 o=Qct (a.opE,az a) o:=λo=>rfl;rw[hnth]at hL ⊢;have hg:List.take 5 (Ex.cL [a])=a.c:=by have:=QeC (l:=[a]) (i:=0) (by simp); simpa using this
   have hcl5:(Ex.cL [a]).length=5:=Qeo [a];generalize hsg:(QW op).1=s at *;simp at hgo hL;simp -implicitDefEqProofs;refine Qb (Qae hp o v (k:=1) (l:=[s,[32]]) rfl rfl (by simp) (by simp; omega)) ?_;simp -implicitDefEqProofs[hg,hcl5];refine QQ (k133 (o++(s++[32])) (v+2) _ (by omega)) ?_;rintro out H' ⟨rfl,v',rfl⟩;simp -implicitDefEqProofs;exact Qdf hp Z (by simp) _ rfl
 . simp only[h4,Zx]at hL ⊢;have hl2:l.length=2:=by
    have hop:op≠18/\op≠19/\op≠20:=by simpa[Qdm,and_assoc]using h3
    have:(QW op).2=1\/(QW op).2=2\/(QW op).2=0:=by
     unfold QW;repeat' split
     all_goals simp_all
    omega
   obtain⟨a,b,rfl⟩:∃ a b,l=[a,b]:=by
    match l,hl2 with
    |[a,b],_=>exact⟨a,b,rfl⟩
   have ka:=λo v L h=>(QoV (hE a (by simp))).at hp o v L h;have kb:=λo v L h=>(QoV (hE b (by simp))).at hp o v L h;have hva:a.v=.agg a.c:=by cases a; rfl
   have hvb:b.v=.agg b.c:=by cases b; rfl
   simp only[hva]at ka;simp only[hvb]at kb;have hna:∀ o,Qdo (prF [a,b]) 0 o=Qct (a.opE,az a) o:=λo=>rfl;have hnb:∀ o,Qdo (prF [a,b]) 1 o=Qct (b.opE,az b) o:=λo=>rfl;rw[hna,hnb]at hL ⊢;have hga:=QlA (x:=(a.opE,az a)) (Qc6 a) o;have hgb:=QlA (x:=(b.opE,az b)) (Qc6 b) (Qct (a.opE,az a) o++[32]++(QW op).1++[32]);have hg:List.take 5 (Ex.cL [a,b])=a.c:=by have:=QeC (l:=[a,b]) (i:=0) (by simp); simpa using this
   have hg2:List.take 5 (List.drop 5 (Ex.cL [a,b]))=b.c:=by have:=QeC (l:=[a,b]) (i:=1) (by simp); simpa using this
   have hcl5:(Ex.cL [a,b]).length=10:=Qeo [a,b];generalize hsg:(QW op).1=s at *;simp at hgb hL;simp -implicitDefEqProofs[h4,hg,hcl5];refine QQ (ka o v _ (by omega)) ?_;rintro out H' ⟨rfl,v',rfl⟩;generalize Qct (a.opE,az a) o=o1 at *;simp -implicitDefEqProofs;refine Qb (Qae hp o1 v' (k:=1) (l:=[[32],s,[32]]) rfl rfl (by simp) (by simp; omega)) ?_;simp -implicitDefEqProofs[hg2,hcl5];refine QQ (kb (o1++32::(s++[32])) (v'+3) _ (by omega)) ?_;rintro out H' ⟨rfl,v'',rfl⟩;simp -implicitDefEqProofs;exact Qdf hp Z (by simp) _ rfl
mutual
theorem QgG:∀ (e:Ex),e.prp->PrK 73 [e.v] (az e)
 |.mk op n nm l p,he=>QBv he (Qq1 l (by unfold Ex.prp at he; exact he.2.2.2))
theorem Qq1:∀ (l:List Ex),Ex.prpL l->∀ e∈l,PrK 73 [e.v] (az e)
 |[],_,_,h=>by cases h
 |e::r,hl,x,hx=>by
  unfold Ex.prpL at hl;by_cases hh:x=e
  . rw[hh]; exact QgG e hl.1
  . exact Qq1 r hl.2 x (by simpa[hh]using hx)
end
end
def Qdj:IC:=.keep [3,4]
 (.seq
  (.seq
   (.reg [
     ⟨(some 11),none,.p (.mov (.t 3))⟩,
     ⟨(some 12),none,.p (.len (.t 11))⟩,
     ⟨(some 13),none,.p (.bin .gtr (.i .i64) (.t 12) (.c (V 0)))⟩])
   (.cond (.t 13)
    .skip
    (.exit 0)))
  (.blk 1
   (.seq
    (.reg [
      ⟨(some 14),none,.p (.mov (.t 3))⟩,
      ⟨(some 15),none,.p (.mov (.t 3))⟩,
      ⟨(some 16),none,.p (.len (.t 15))⟩,
      ⟨(some 17),none,.p (.bin .sub (.i .i64) (.t 16) (.c (V 1)))⟩,
      ⟨(some 18),none,.p (.ia 1 (.t 14) (.t 17))⟩,
      ⟨(some 19),none,.p (.ld1 (.t 18))⟩,
      ⟨(some 5),none,.p (.mov (.t 19))⟩])
    (.seq
     (.reg [
       ⟨(some 20),none,.p (.mov (.t 3))⟩,
       ⟨(some 21),none,.p (.mov (.t 3))⟩,
       ⟨(some 22),none,.p (.len (.t 21))⟩,
       ⟨(some 23),none,.p (.bin .sub (.i .i64) (.t 22) (.c (V 1)))⟩,
       ⟨(some 24),none,.p (.sl 1 (.t 20) none (some (.t 23)))⟩,
       ⟨(some 3),none,.p (.mov (.t 24))⟩])
     (.seq
      (.seq
       (.reg [
         ⟨(some 25),none,.p (.mov (.t 5))⟩,
         ⟨(some 26),none,.p (.lnv (.t 25))⟩,
         ⟨(some 27),none,.p (.bin .eql (.i .i64) (.t 26) (.c (V 0)))⟩,
         ⟨(some 28),none,.p (.mov (.t 27))⟩,
         ⟨(some 29),(some (28,false)),.p (.mov (.t 4))⟩,
         ⟨(some 30),(some (28,false)),.p (.mov (.t 5))⟩,
         ⟨(some 31),(some (28,false)),.p (.iav 5 (.t 30) (.c (V 0)))⟩,
         ⟨(some 32),(some (28,false)),.p (.lkp (.p 25) false (V 0) (.t 29) (.t 31))⟩,
         ⟨(some 33),(some (28,false)),.p (.mov (.t 5))⟩,
         ⟨(some 34),(some (28,false)),.p (.lnv (.t 33))⟩,
         ⟨(some 35),(some (28,false)),.p (.bin .geq (.i .i64) (.t 32) (.t 34))⟩,
         ⟨(some 36),none,.p (.pick (.t 28) (.c (bl true)) (.t 35))⟩])
       (.cond (.t 36)
        (.exit 1)
        .skip))
      (.seq
       (.reg [
         ⟨(some 37),none,.p (.mov (.t 4))⟩,
         ⟨(some 38),none,.p (.mov (.t 5))⟩,
         ⟨(some 39),none,.p (.iav 5 (.t 38) (.c (V 0)))⟩,
         ⟨(some 40),none,.p (.mov (.t 5))⟩,
         ⟨(some 41),none,.p (.lnv (.t 40))⟩,
         ⟨none,none,.e (.mup (.p 25) (.t 37) (.t 39) (.t 41))⟩])
       (.seq
        (.reg [
          ⟨(some 42),none,.p (.mov (.t 5))⟩,
          ⟨(some 43),none,.p (.lnv (.t 42))⟩,
          ⟨(some 44),none,.p (.mov (.c (V 0)))⟩])
        (.blk 2
         (.loop Qmg)))))))))
def i72m:IC :=
 (.seq
  (.reg [
    ⟨(some 2),none,.p (.mov (.c (bl false)))⟩])
  (.seq
   (.reg [
     ⟨(some 8),none,.p (.mov (.t 0))⟩,
     ⟨(some 9),none,.e (.bsl 23 1 1 [.val (.slice none 0 0)] [(0,(.t 8))])⟩,
     ⟨(some 3),none,.p (.mov (.t 9))⟩])
   (.seq
    (.reg [
      ⟨(some 10),none,.e (.mkm 163)⟩,
      ⟨(some 4),none,.p (.mov (.t 10))⟩])
    (.seq
     (.blk 0
      (.loop Qdj))
     (.seq
      (.reg [
        ⟨(some 2),none,.p (.mov (.c (bl true)))⟩])
      .ret)))))
theorem c72m:Qdn Tryz.prog Qf Tryz.f72 i72m r72=true:=by kernel_rfl
section
variable {P:ZN}
theorem _root_.Go.Ab.Ok.kn (G:Qv) {f:ZP} {args:ZJ} {H H':ZI} {out:Out} (h : @Ok _ _ knNone P f args H out H') : @Ok _ _ G P f args H out H':=by
 refine⟨h.1,λS vs hH hS hv=>(h.2 S vs hH (Sim.to G knNone hS (λq hq=>by cases hq)) hv).mono ?_⟩;rintro e w ⟨v,ρ',h1,h2,h3⟩;exact⟨v,ρ',h1,Sim.to knNone G h2 (@St.KF.ext _ _ G _ _ _ (@Sim.kf _ _ G _ hS) h1),h3⟩
end
section
variable [G0:Qv]
theorem LI.learn0 {P:ZN} {N:Nat} {D:Array Oper->List Nat->List Ins->Bool} {i:IC} {U:Env} {H:ZI} {K:ZH} (j p:Nat) {o:AO} {cells:ZJ} {len:Nat}
 (ho:H[j]? = some o) (hl:o.live=true) (hp:o.cells[p]? = some (.slc cells len))
 (h:∀ (a:ZL) (cap:Nat),LI P N D i U (H.set j ⟨o.cells.set p (.val (.slice a len cap)),o.ty,o.ver,true⟩) K) :
 LI P N D i U H K:=by
 intro c hc db S a hH hS he hN hd;subst hH;have h1:=hS.live j o ho hl
 cases hρ:S.ρ j with
 |none=>rw[hρ]at h1; rw[h1]at hp; simp at hp
 |some b =>
  rw[hρ]at h1;obtain⟨us,rest,h2,h3⟩:=h1;obtain⟨u,hu1,hu2⟩:=h3.get hp;obtain⟨ad,cap,rfl⟩:∃ ad cap,u=.slice ad len cap:=by
   cases hu2 with
   |nilslc=>exact⟨none,0,rfl⟩
   |slc cells len a cap us hc hl hi h=>exact⟨some a,cap,rfl⟩
  have hS':Sim ⟨S.ρ,S.H.set j ⟨o.cells.set p (.val (.slice ad len cap)),o.ty,o.ver,true⟩,S.w⟩:=by
   refine Qnm hS ho hl ?_ ?_
   . intro s hs;rcases Y2 hs with hs|rfl
     . exact(hS.bel j o ho s hs).2 hl
     . rfl
   . intro us' hl' hv';have e:us'.length=us.length:=hv'.1.trans h3.1.symm;have:us'=us:=by
      unfold St.lies at hl';rw[hρ]at hl';obtain⟨rest',h4⟩:=hl';rw[h2]at h4;have h5:us++rest=us'++rest':=by simpa using h4
      exact(List.append_inj h5 e.symm).1.symm
     subst this;refine⟨us'.length,?_⟩;rw[VI];refine⟨by simpa using h3.1,λk s v hs hv => ?_⟩;by_cases hk:k=p
     . subst hk;rw[hu1]at hv; cases hv
       rw[Vq (Qk hp)]at hs; cases hs
       exact .val _
     . rw[Vg (by omega)]at hs;exact h3.2 k s v hs hv
  have hx:=QgS ho hl (o.cells.set p (.val (.slice ad len cap)));have hd':=hd.ext hS hx;refine Qlk (h ad cap c hc db ⟨S.ρ,S.H.set j ⟨o.cells.set p (.val (.slice ad len cap)),o.ty,o.ver,true⟩,S.w⟩ a rfl hS' (he.ext hx) hN hd') λe a' w hp => ?_;obtain⟨x,aw,ρ,H',k1,k2,k3,k4,k5,k6,k7⟩:=hp;exact⟨x,aw,ρ,H',k1,hx.trans (k2.mono (hx.len (Vb _))),k3,k4,k5,k6,k7⟩
theorem Qat.knownE {U:Env} {H:ZI} {k:Nat} {a:Addr} {len cap:Nat} (hg:U.get k=.val (.slice (some a) len cap)) {cells:ZJ} (hk:(SV.slc cells len,Value.slice (some a) len cap)∈Qv.kn) :
 Qat U H ((k,.slc cells len)::U) H:=by
 intro S tmps hH hS he;subst hH;refine⟨S.ρ,Ext.refl _ _,hS,⟨λt => ?_⟩⟩;simp only[Env.get];by_cases ht:k=t
 . subst ht;have:=he.get k;rw[hg]at this;rw[Zr rfl];generalize tmps.getD k undef=u at this
   cases this
   exact(hS.kf _ hk).2
 . rw[Zq ht]; exact he.get t
end
theorem QnL {k:Value}:∀ {ks:ZK} {x:Value},x∈Q9 k ks->x∈ks\/x=k
 |[],x,h=>by simp[Q9]at h; exact .inr h
 |y::ks,x,h=>by
  rw[Q9]at h;split at h
  . exact .inl h
  . rcases Vd.1 h with rfl|h
    . exact .inl (.head _)
    . rcases QnL h with h|h
      . exact .inl (.tail _ h)
      . exact .inr h
theorem Qn7 {k:Value} {v:SV}:∀ {ks:ZK} {vs:ZJ} {x:SV},x∈Q6 k v ks vs->x∈vs\/x=v
 |[],vs,x,h=>by simp[Q6]at h; exact .inr h
 |_::_,[],x,h=>by simp[Q6]at h; exact .inr h
 |a::ks,b::vs,x,h=>by
  rw[Q6]at h;split at h
  . rcases Vd.1 h with rfl|h
    . exact .inr rfl
    . exact .inl (.tail _ h)
  . rcases Vd.1 h with rfl|h
    . exact .inl (.head _)
    . rcases Qn7 h with h|h
      . exact .inl (.tail _ h)
      . exact .inr h
theorem QoM {k:Value} {v:SV}:∀ {ks:ZK} {vs:ZJ},ks.length=vs.length->(Q9 k ks).length=(Q6 k v ks vs).length
 |[],[],_=>rfl
 |a::ks,b::vs,h=>by
  rw[Q9,Q6];split
  . simpa using h
  . have:=QoM (k:=k) (v:=v) (ks:=ks) (vs:=vs) (by simpa using h);simp[this]
theorem Qog {k:Value}:∀ {ks:ZK} {vs:ZJ} {x:SV},lkm k ks vs=some x->x∈vs
 |[],_,_,h=>by simp[lkm]at h
 |_::_,[],_,h=>by simp[lkm]at h
 |a::ks,b::vs,x,h=>by
  rw[lkm]at h;split at h
  . cases h; exact .head _
  . exact .tail _ (Qog h)
mutual
def QcN:Ex->Nat
 |.mk _ _ _ l _=>Qap l
def Qap:List Ex->Nat
 |[]=>1
 |e::r=>QcN e+Qap r
end
def Ex.lsE:Ex->List Ex
 |.mk _ _ _ l _=>l
def QcG (td:List (List Ex)):Nat:=(td.map Qap).sum
theorem QiO:∀ l:List Ex,1<=Qap l
 |[]=>by simp[Qap]
 |e::r=>by rw[Qap]; have:=QiO r; omega
theorem QpR:∀ l:List Ex,Qap l=1+QcG (l.map Ex.lsE)
 |[]=>rfl
 |e::r=>by
  obtain⟨a,b,c,d,f⟩:=e;rw[Qap,QpR r,QcN];simp only[QcG,Vl,VY,Ex.lsE];omega
theorem QoY (a b:List (List Ex)):QcG (a++b)=QcG a+QcG b:=by simp[QcG]
theorem Qpw:∀ td:List (List Ex),td.length<=QcG td
 |[]=>Vb _
 |l::r=>by
  have h1:=QiO l;have h2:=Qpw r;simp only[QcG,Vl,VY,Vh]at h2 ⊢;omega
def exR (td:List (List Ex)):ZJ:=td.map an
@[simp] theorem Qop (td:List (List Ex)):(exR td).length=td.length:=by simp[exR]
abbrev TS (td:List (List Ex)) (kp:ZK) (vp:ZJ) (vt:Nat) (G:ZI):ZI:=⟨exR td,23,vt,true⟩::⟨.mk kp::vp,163,0,false⟩::G
structure TE (n:Nat) (td:List (List Ex)) (vt:Nat) (U:Env):Prop where
 s3:U.get 3=.own n 0 td.length 1 vt
 s4:U.get 4=.mp (n+1) 0
theorem Qk8 (i v:Nat):(SV.mp i v).ug=SV.mp i v:=rfl
theorem mo1 (H:ZI) (a:AO) (ks:ZK) (vs:ZJ) (T:ZM) (G:ZI):SV.mapOf (H++a::⟨.mk ks::vs,T,0,false⟩::G) (.mp (H.length+1) 0)=some (ks,vs):=by
 simp[SV.mapOf]
section
variable [Qv] {H:ZI} {kp:ZK} {vp:ZJ} {N:Nat} {K:ZH}
theorem QzG {vt:Nat} {G:ZI} {U:Env} (he:TE H.length [] vt U) (h:∀ U G,K (.exit 0) U (H++G)) :
 LI Tryz.prog N Qf Qdj U (H++TS [] kp vp vt G) K:=by
 obtain⟨h3,h4⟩:=he;refine Qp hm Qdj.eq_1 ?_;simp[h3,h4];exact h _ _
theorem Qyd {rest:List (List Ex)} {vt:Nat} {G:ZI} {U:Env} (hr:rest.length<2000000000) (he:TE H.length (rest++[[]]) vt U)
 (h:∀ G U,TE H.length rest vt U->LI Tryz.prog N Qf Qdj U (H++TS rest kp vp vt G) K) :
 LI Tryz.prog N Qf Qdj U (H++TS (rest++[[]]) kp vp vt G) K:=by
 obtain⟨h3,h4⟩:=he;have hl:(rest++[([]:List Ex)]).length=rest.length+1:=by simp
 rw[hl]at h3;have hcell:exR (rest++[[]])=exR rest++[.slc [] 0]:=by simp[exR,an,Ex.cL]
 refine LI.learn0 H.length rest.length (o:=⟨exR (rest++[[]]),23,vt,true⟩) (cells:=[]) (len:=0) (by simp) rfl (by rw[hcell]; simp[exR]) λoa cap => ?_;have hset:(exR (rest++[[]])).set rest.length (.val (.slice oa 0 cap))=exR rest++[.val (.slice oa 0 cap)]:=by
  rw[hcell,Yk _ _ (by simp)]; simp
 refine LI.cong (H':=H++⟨exR rest++[.val (.slice oa 0 cap)],23,vt,true⟩::⟨.mk kp::vp,163,0,false⟩::G) (by rw[<-hset]; simp) ?_;have Z:=Qop rest;have htk:List.take rest.length (exR rest++[SV.val (.slice oa 0 cap)])=exR rest:=VP Z;have hcc:(exR rest++[SV.val (.slice oa 0 cap)]).length=rest.length+1:=by simp
 have hgd:(List.drop rest.length (exR rest++[SV.val (.slice oa 0 cap)]))=[.val (.slice oa 0 cap)]:=Y7 Z;have w1:IntKind.i64.wrap (rest.length:Int)=(rest.length:Int):=QfM (by omega);refine Qp hm Qdj.eq_1 ?_;generalize exR rest++[SV.val (.slice oa 0 cap)]=cc at *;simp[h3,h4,w1,hgd];refine⟨by omega,LI.tell (Qat.trunc (j:=H.length) (o:=⟨cc,23,vt,true⟩) (by simp) rfl rest.length) (LI.cong (H':=H++TS rest kp vp vt G) (by simp[htk]) (h G _ ⟨by simp,by simp⟩))⟩
theorem Qvk {l:List Ex} (hl3:l.length<=100) (hok:∀ e∈l,e.prp) {rest:List (List Ex)} (hr:rest.length+200<2000000000)
 (h:∀ vt G U,TE H.length (rest++l.map Ex.lsE) vt U->K (.exit 2) U (H++TS (rest++l.map Ex.lsE) kp vp vt G)) :
 ∀ (m i vt:Nat) (G:ZI) (U:Env),i+m=l.length->TE H.length (rest++(l.take i).map Ex.lsE) vt U->U.get 42=an l->U.get 43=V l.length->U.get 44=V i ->
  LI Tryz.prog N Qf Qmg U (H++TS (rest++(l.take i).map Ex.lsE) kp vp vt G) K:=by
 intro m
 induction m with
 |zero =>
  intro i vt G U hi he h42 h43 h44;obtain⟨h3,h4⟩:=he;refine Qp hm Qmg.eq_1 ?_;have e:i=l.length:=by omega
  subst e;rw[VI]at *;simp[h3,h4,h42,h43,h44];exact h vt G _ ⟨by simp,by simp⟩
 |succ m ih =>
  intro i vt G U hi he h42 h43 h44;obtain⟨h3,h4⟩:=he;refine Qp hm Qmg.eq_1 ?_;have hlt:i<l.length:=by omega
  have ax:(i:Int)<l.length:=by omega
  have hg:=QeC hlt;have hcl':=Qeo l;have hoke:=hok _ (Vp hlt);have htk:rest++(l.take (i+1)).map Ex.lsE=(rest++(l.take i).map Ex.lsE)++[l[i].lsE]:=by
   rw[<-Y6 hlt,Yt,Vr]; rfl
  have ih:=ih (i+1);rw[htk]at ih;have hrl:(rest++(l.take i).map Ex.lsE).length<2000000000:=by simp; omega
  generalize rest++(l.take i).map Ex.lsE=td at *;generalize l[i]=e at *;obtain⟨op,n,nm,le,p⟩:=e;unfold Ex.prp at hoke;have h130:=λH=>Ok.kn inferInstance (QBr (H:=H) (e:=.mk op n nm le p) hoke.1 hoke.2.1);have hex:=Qop td;simp[h3,h4,h42,h43,h44,an,ax,hg,hcl',Ex.c];refine⟨by omega,Qb (h130 _) ?_⟩;simp[h3,h4,h42,h43,h44,an];refine⟨by omega,by omega,LI.cong ?_ (ih (vt+1) (G++[⟨[V op,V n,st (B nm),.slc (Ex.cL le) le.length,V p],25,0,true⟩,⟨[.slc (Ex.cL le) le.length],23,0,true⟩]) _ (by omega) ⟨?_,?_⟩ ?_ ?_ ?_)⟩
  . simp[exR,Ex.lsE,an]
  . simp
  . simp
  . simp[an]
  . simp
  . simp[Qaj (show i<9223372036854775807 by omega)]
theorem QzM {l:List Ex} {rest:List (List Ex)} {a:Addr} {cap vt:Nat} {G:ZI} {U:Env} (hk:(an l,Value.slice (some a) l.length cap)∈Qv.kn) (hl0:l≠[]) (hl3:l.length<=100) (hok:∀ e∈l,e.prp) (hr:rest.length+200<2000000000)
 (hkl:kp.length=vp.length) (hkn:∀ v∈kp,QdK v) (hvp:∀ x∈vp,∃ n,x=V n) (he:TE H.length (rest++[l]) vt U)
 (hskip:∀ G U,TE H.length rest vt U->LI Tryz.prog N Qf Qdj U (H++TS rest kp vp vt G) K)
 (h:∀ kp' vp' vt G U,kp'.length=vp'.length->(∀ v∈kp',QdK v)->(∀ x∈vp',∃ n,x=V n)->TE H.length (rest++l.map Ex.lsE) vt U->LI Tryz.prog N Qf Qdj U (H++TS (rest++l.map Ex.lsE) kp' vp' vt G) K) :
 LI Tryz.prog N Qf Qdj U (H++⟨exR rest++[.val (.slice (some a) l.length cap)],23,vt,true⟩::⟨.mk kp::vp,163,0,false⟩::G) K:=by
 obtain⟨h3,h4⟩:=he;have hl:(rest++[l]).length=rest.length+1:=by simp
 rw[hl]at h3;have hknow:QdK (.pointer (some a)):=by
  refine⟨rfl,a,Ex.cL l,l.length,cap,rfl,hk,?_⟩
  cases l with
  |nil=>exact absurd rfl hl0
  |cons x r =>
   obtain⟨op,n,nm,l,p⟩:=x;exact⟨B nm,by rw[Ex.cL,Ex.c]; exact YA _ (.tail _ (.tail _ (.head _)))⟩
 have hkall:∀ v∈Value.pointer (some a)::kp,(KK.p 25).knows v:=by
  intro v hv;rcases Vd.1 hv with rfl|hv
  . exact hknow
  . exact hkn v hv
 have hkis:∀ v∈kp,(KK.p 25).is v=true:=by
  intro v hv;obtain⟨_,b,_,_,_,rfl,_⟩:=hkn v hv;rfl
 have hl0':¬ (l.length:Int)=0:=by
  cases l with
  |nil=>exact absurd rfl hl0
  |cons x r=>simp; omega
 have hl00:¬ l.length=0:=by omega
 have hpos:0<l.length:=by omega
 have Z:=Qop rest;have htk:List.take rest.length (exR rest++[SV.val (.slice (some a) l.length cap)])=exR rest:=VP Z;have hcc:(exR rest++[SV.val (.slice (some a) l.length cap)]).length=rest.length+1:=by simp
 have hgd:(List.drop rest.length (exR rest++[SV.val (.slice (some a) l.length cap)]))=[.val (.slice (some a) l.length cap)]:=Y7 Z;have w1:IntKind.i64.wrap (rest.length:Int)=(rest.length:Int):=QfM (by omega);refine Qp hm Qdj.eq_1 ?_;generalize exR rest++[SV.val (.slice (some a) l.length cap)]=cc at *;obtain⟨n,hn⟩:∃ n,(lkm (Value.pointer (some a)) kp vp).getD (V 0)=V n:=by
  cases hlk:lkm (Value.pointer (some a)) kp vp with
  |none=>exact⟨0,rfl⟩
  |some x=>obtain⟨n,rfl⟩:=hvp x (Qog hlk); exact⟨n,rfl⟩
 have hal:((kp,vp):ZK×ZJ).1.all (KK.p 25).is=true:=Vi.2 hkis;have add0:a.add 0=a:=Zr rfl;by_cases hmet:(l.length:Int)<=n
 . simp[h3,h4,w1,hgd,hl00,hpos,mo1,Qk8,add0,hn,hmet,SV.isK,SV.key,SV.isP,SV.pval];refine⟨by omega,⟨rfl,hkis,hkall _ (.head _),λv hv=>hkall v (.tail _ hv)⟩,LI.tell (Qat.trunc (j:=H.length) (o:=⟨cc,23,vt,true⟩) (by simp) rfl rest.length) (LI.cong (H':=H++TS rest kp vp vt G) (by simp[htk]) (hskip G _ ⟨by simp,by simp⟩))⟩
 . simp[h3,h4,w1,hgd,hl00,hpos,mo1,Qk8,add0,hn,hmet,SV.isK,SV.key,SV.isP,SV.pval];refine⟨by omega,⟨rfl,hkis,hkall _ (.head _),λv hv=>hkall v (.tail _ hv)⟩,?_⟩;refine Qb0 (x:=(kp,vp)) (mo1 ..) rfl rfl hal ?_ (by simpa[SV.key,SV.pval]using hkall);simp[SV.key,SV.pval];refine LI.tell (Qat.knownE (k:=42) (by simp) hk) ?_;refine LI.tell (Qat.trunc (j:=H.length) (o:=⟨cc,23,vt,true⟩) (by simp) rfl rest.length) ?_;have hkl':=QoM (k:=Value.pointer (some a)) (v:=V l.length) hkl;have hkn':∀ v∈Q9 (Value.pointer (some a)) kp,QdK v:=λv hv=>by
    rcases QnL hv with hv|rfl
    . exact hkn v hv
    . exact hknow
   have hvp':∀ x∈Q6 (Value.pointer (some a)) (V l.length) kp vp,∃ n,x=V n:=λx hx=>by
    rcases Qn7 hx with hx|rfl
    . exact hvp x hx
    . exact⟨_,rfl⟩
   refine LI.cong (H':=H++TS (rest++(l.take 0).map Ex.lsE) (Q9 (Value.pointer (some a)) kp) (Q6 (Value.pointer (some a)) (V l.length) kp vp) vt G) (by simp[htk]) ?_;refine Qvk hl3 hok hr (λvt G U he => ?_) l.length 0 vt G _ (by omega) ⟨?_,?_⟩ ?_ ?_ ?_
   . simp;exact h _ _ vt G U hkl' hkn' hvp' he
   all_goals simp[an,h4]
theorem Qwk {l:List Ex} {rest:List (List Ex)} {vt:Nat} {G:ZI} {U:Env} (hl0:l≠[]) (hl3:l.length<=100) (hok:∀ e∈l,e.prp) (hr:rest.length+200<2000000000)
 (hkl:kp.length=vp.length) (hkn:∀ v∈kp,QdK v) (hvp:∀ x∈vp,∃ n,x=V n) (he:TE H.length (rest++[l]) vt U)
 (h:∀ (kn:Qv) td kp' vp' vt G U,(td=rest\/td=rest++l.map Ex.lsE)->kp'.length=vp'.length->(∀ v∈kp',@QdK _ kn v)->(∀ x∈vp',∃ n,x=V n)->TE H.length td vt U -> @LI _ _ kn Tryz.prog N Qf Qdj U (H++TS td kp' vp' vt G) K) :
 LI Tryz.prog N Qf Qdj U (H++TS (rest++[l]) kp vp vt G) K:=by
 have hne:Ex.cL l≠[]:=by
  cases l with
  |nil=>exact absurd rfl hl0
  |cons x r=>obtain⟨a,b,c,d,e⟩:=x; simp[Ex.cL,Ex.c]
 have hcell:exR (rest++[l])=exR rest++[.slc (Ex.cL l) l.length]:=by simp[exR,an]
 refine LI.learn H.length rest.length (o:=⟨exR (rest++[l]),23,vt,true⟩) (cells:=Ex.cL l) (len:=l.length) (by simp) rfl (by rw[hcell,Vk (by simp)]; simp) hne (Ex.undL 0 l) λa cap => ?_;have hset:(exR (rest++[l])).set rest.length (.val (.slice (some a) l.length cap))=exR rest++[.val (.slice (some a) l.length cap)]:=by
  rw[hcell,Yk _ _ (by simp)]; simp
 have hkn':∀ v∈kp,@QdK _ ⟨(.slc (Ex.cL l) l.length,.slice (some a) l.length cap)::Qv.kn⟩ v:=λv hv=>by
  obtain⟨hf,a,cells,len,cap,h1,h2,h3⟩:=hkn v hv;exact⟨hf,a,cells,len,cap,h1,VW _ h2,h3⟩
 refine @LI.cong _ _ ⟨(.slc (Ex.cL l) l.length,.slice (some a) l.length cap)::Qv.kn⟩ _ _ _ _ _ _ _ _ ?_ (@QzM ⟨(.slc (Ex.cL l) l.length,.slice (some a) l.length cap)::Qv.kn⟩ H kp vp N K l rest a cap vt G U (YF ..) hl0 hl3 hok hr hkl hkn' hvp he
  (λG U he=>h _ _ _ _ _ G U (.inl rfl) hkl hkn' hvp he) (λkp' vp' vt G U h1 h2 h3 he=>h _ _ _ _ _ G U (.inr rfl) h1 h2 h3 he))
 rw[<-hset]; simp
end
theorem QoX:∀ {e:Ex},e.prp->e.lsE.length<=3/\∀ x∈e.lsE,x.prp
 |.mk op n nm l p,h=>by
  unfold Ex.prp at h;refine⟨?_,Qg4.1 h.2.2.2⟩;have hs:=h.1;simp only[Qda]at hs;show l.length<=3;split at hs
  . simp only[Va,Zs]at hs; rw[hs.1.2]; simp
  . split at hs
    . simp only[Va,Zs]at hs; rw[hs.1.2]; simp
    . simp only[Va,Zs]at hs;have h3:(QW op).2<=3:=by
       unfold QW;repeat' split
       all_goals simp
      have:=hs.1.1.2;omega
section
variable {H:ZI} {N:Nat} {K:ZH}
theorem QEg (hK:∀ U G,K (.exit 0) U (H++G)):∀ (M:Nat),M<1000000000->∀ (kn:Qv) (td:List (List Ex)) (kp:ZK) (vp:ZJ) (vt:Nat) (G:ZI) (U:Env),QcG td<=M->(∀ l∈td,l.length<=100/\∀ e∈l,e.prp) ->
 kp.length=vp.length->(∀ v∈kp,@QdK _ kn v)->(∀ x∈vp,∃ n,x=V n)->TE H.length td vt U -> @LI _ _ kn Tryz.prog N Qf Qdj U (H++TS td kp vp vt G) K:=by
 intro M
 induction M using Nat.strongRecOn with
 |ind M ih =>
  intro hM kn td kp vp vt G U hc hok hkl hkn hvp he;rcases List.eq_nil_or_concat td with rfl|⟨rest,l,rfl⟩
  . exact QzG he hK
  . rw[List.concat_eq_append]at *;have hrl:=Qpw (rest++[l]);simp only[Vj,List.length_singleton]at hrl;rw[QoY]at hc hrl;have hl1:QcG [l]=Qap l:=by simp[QcG]
    rw[hl1]at hc hrl;have hpos:=QiO l;have hce:=QpR l;have hrest:∀ l∈rest,l.length<=100/\∀ e∈l,e.prp:=λx hx=>hok x (by simp[hx]);obtain⟨hl3,hle⟩:=hok l (by simp);by_cases hl0:l=[]
    . subst hl0;exact Qyd (by omega) he λG U he=>ih (QcG rest) (by omega) (by omega) kn rest kp vp vt G U (Vb _) hrest hkl hkn hvp he
    . refine Qwk hl0 hl3 hle (by omega) hkl hkn hvp he λkn' td kp' vp' vt G U htd h1 h2 h3 ah => ?_;rcases htd with rfl|rfl
      . exact ih (QcG td) (by omega) (by omega) kn' td kp' vp' vt G U (Vb _) hrest h1 h2 h3 ah
      . refine ih (QcG (rest++l.map Ex.lsE)) (by rw[QoY]; omega) (by rw[QoY]; omega) kn' _ kp' vp' vt G U (Vb _) ?_ h1 h2 h3 ah;intro x hx;rcases Vt.1 hx with hx|hx
        . exact hrest x hx
        . obtain⟨e,he,rfl⟩:=VC.1 hx;exact⟨Vf (QoX (hle e he)).1 (by omega),(QoX (hle e he)).2⟩
theorem ok72 {l:List Ex} (hl:l.length<=100) (hok:∀ e∈l,e.prp) (hc:Qap l<1000000000):Ok Tryz.prog 72 [an l] H (.ret (bl true)) H:=by
 refine Qt hm Tryz.func72 c72m (by simp[an]) λZ => ?_;simp[i72m,r72,an];refine LI.cong (H':=H++TS [l] [] [] 0 []) (by simp[exR,an]) ?_;refine QEg (λU G => ?_) (Qap l) hc _ [l] [] [] 0 [] _ (by simp[QcG]) (by simpa using ⟨hl,hok⟩) rfl (by simp) (by simp) ⟨?_,?_⟩
 . simp;exact Qq 3 Z rfl (by simp)
 all_goals simp
end
def QcB (e:Ex):ZG×Int :=
 if 20000<(az e []).length then([],4)else if(Qz (az e [])).2.1≠0 then([],(Qz (az e [])).2.1)else(az e [],0)
theorem Qvd (s:ZG):Qag (B s)=s.map λb=>u8 b.toNat:=by simp[Qag]
theorem QpK:∀ (s:ZG) (acc:ByteArray),(Qea (s.map λb=>u8 b.toNat)).foldl (λr n=>r.push (UInt8.ofNat n.toNat)) acc=⟨acc.data++s.toArray⟩
 |[],acc=>by simp[Qea]
 |b::r,acc=>by
  have h:=QpK r (acc.push b);have e:UInt8.ofNat ((((u8 b.toNat).u8n).getD 0).toNat)=b:=by
   show UInt8.ofNat (Int.toNat (b.toNat:Int))=b;rw[Int.toNat_natCast]; exact UInt8.ofNat_toNat
  rw[Vl,Qea,YH,e,h];congr 1;show acc.data.push b++r.toArray=_;simp
theorem QpM (s:ZG):Qgr (List.take s.length (Qag (B s)))=B s:=by
 rw[VD (by rw[QjF]; exact Vb _),Qvd,Qgr,QpK];simp[B,ByteArray.empty,ByteArray.emptyWithCapacity]; rfl
theorem QqF (s:ZG):Qhu (Qag (B s)) s.length=true:=by
 rw[Qhu,VD (by rw[QjF]; exact Vb _),QjF,Qvd];simp only[Vb,decide_true,Bool.true_and,Vi];intro x hx;obtain⟨b,_,rfl⟩:=VC.1 hx;rfl
section
variable {H:ZI}
theorem Qo2 {e:Ex} (he:e.prp) (hc:QcN e<1000000000-1) (hL:(az e []).length<=140737488355328):Ok Tryz.prog 28 [e.v] H (.ret (.tup [st (B (QcB e).1),V (QcB e).2])) H:=by
 have hD:=Qb1 (P:=Tryz.prog) hm;have h72:=λH=>(ok72 (H:=H) (l:=[e]) (by simp) (by simpa using he) (by simp[Qap]; omega)).toP;have h73:=QgG e he;have hv:e.v=.agg e.c:=by cases e; rfl
 have hce:Ex.cL [e]=e.c:=by simp[Ex.cL]
 have hc5:=Ex.c_len e;have hcok:QF e.c:=by cases e; intro s hs; simp[Ex.c]at hs; rcases hs with rfl|rfl|rfl|rfl|rfl<;>rfl
 rw[hv]at h73 ⊢;simp only[an,hce]at h72;have hcc:e.c.take 5=e.c:=by rw[<-hc5,VI]
 have hcu:SV.underL 0 e.c=true:=by have:=Ex.undL 0 [e]; rwa [hce]at this
 refine Qk9 hm Tryz.func28 c28 (by simp) λZ => ?_;generalize e.c=c at *;rw[show i28=.seq (IC.nth 0 i28) (.seq (IC.nth 1 i28) (.seq (IC.nth 2 i28) (IC.tl 3 i28)))from rfl];generalize ht:IC.tl 3 i28=t3;refine WI.seq hD ?_;simp -implicitDefEqProofs[IC.nth,i28];refine⟨hcok,?_⟩;refine WI.seq hD ?_;simp -implicitDefEqProofs[hc5,hcc];refine⟨hcok,QQ (OkP.give (H.length+1) 1 (o:=⟨c,25,0,true⟩) (by simp) rfl (OkP.cast (by simp[hcc,hc5]) rfl (h72 _))) ?_⟩;rintro out H' ⟨rfl,rfl⟩;simp -implicitDefEqProofs[AO.dead];refine WI.seq hD ?_;simp -implicitDefEqProofs;refine WI.tell (Qat.own0 (j:=H.length+2) (p:=0) (o:=⟨[.val (.slice none 0 0)],85,0,true⟩) (by simp) rfl rfl 5 1) ?_;simp -implicitDefEqProofs;have hwr:∀ (o:ZG) (v:Nat),wr (H++[⟨c,25,0,true⟩,⟨[],25,1,false⟩,⟨[.own (H.length+3) 0 0 1 0],85,0,true⟩,⟨[],5,0,true⟩]) (H.length+2) (H.length+3) o v =
  H++[⟨c,25,0,true⟩,⟨[],25,1,false⟩,⟨[.own (H.length+3) 0 o.length 1 v],85,0,true⟩,⟨Qag (B o),5,v,true⟩]:=λo v=>by
  unfold wr prO byO;rw[Qig,Qig]; rfl
 have hp:PrA (H++[⟨c,25,0,true⟩,⟨[],25,1,false⟩,⟨[.own (H.length+3) 0 0 1 0],85,0,true⟩,⟨[],5,0,true⟩]) (H.length+2) (H.length+3) [] 0:=⟨by simp[prO],by simp[byO]; rfl,by omega⟩;have key:=h73 _ _ _ _ _ hp hL;have hful:=λv=>Qm3 (hp.wr (az e []) v);rw[hwr]at key;simp only[hwr]at key hful;have hsh:QcB e=if 20000<(az e []).length then([],4)else if(Qz (az e [])).2.1≠0 then([],(Qz (az e [])).2.1)else(az e [],0):=rfl;generalize az e []=s at *;generalize QcB e=sh at *;refine WI.of_X hD ?_;rw[<-ht];simp -implicitDefEqProofs[IC.tl,i28,r28,hc5,hcc];refine QQ (OkP.cast (by simp[rp]) (by simp; rfl) key) ?_;rintro out H' ⟨rfl,v',rfl⟩;simp -implicitDefEqProofs;refine Qb (hful v') ?_;by_cases h2:20000<s.length
 . rw[Zr h2]at hsh;subst hsh;simp -implicitDefEqProofs[h2];exact Qq 3 Z rfl (by simp)
 rw[Zq h2]at hsh;have h11:=λH=>Qhv (H:=H) (l:=s) (by omega);have hv':(Qz s).1.v=.agg (Qz s).1.c:=by cases (Qz s).1; rfl
 have hc5':=Ex.c_len (Qz s).1;have hcok':QF (Qz s).1.c:=by cases (Qz s).1; intro s hs; simp[Ex.c]at hs; rcases hs with rfl|rfl|rfl|rfl|rfl<;>rfl
 simp only[hv']at h11;have h11:=λH=>h11 H;generalize (Qz s).1.c=c2 at *;generalize (Qz s).2.1=er at *;generalize (Qz s).2.2=po at *;simp -implicitDefEqProofs[h2,QqF,QpM];refine Qb (h11 _) ?_;simp -implicitDefEqProofs[QG,hc5'];refine⟨hcok',?_⟩;by_cases h0:er=0
 . rw[Zr h0];rw[Zq (by simpa using h0)]at hsh;subst hsh;exact Qq 3 Z rfl (by simp; rfl)
 . rw[Zq h0];rw[Zr h0]at hsh;subst hsh;exact Qq 3 Z rfl (by simp)
end
def tx1:ZG:=[49,32,43,32,50,32,42,32,120]
def ex1:Ex:=.mk 8 0 [] [.mk 1 1 [] [] 0,.mk 5 0 [] [.mk 1 2 [] [] 4,.mk 2 0 [120] [] 8] 6] 2
theorem rd1:Qz tx1=(ex1,0,0):=by kernel_rfl
def tx2:ZG:=[97,32,45,32,98,32,45,32,99]
def tw2:ZG:=[40,97,32,45,32,98,41,32,45,32,99]
def ex2:Ex:=.mk 9 0 [] [.mk 9 0 [] [.mk 2 0 [97] [] 0,.mk 2 0 [98] [] 4] 2,.mk 2 0 [99] [] 8] 6
theorem rd2:Qz tx2=(ex2,0,0):=by kernel_rfl
theorem pr2:az ex2 []=tw2:=by kernel_rfl
theorem rw2:(Qz tw2).2=(0,0):=by kernel_rfl
theorem sh2:QcB ex2=(tw2,0):=by
 unfold QcB;rw[pr2,rw2]; rfl
theorem pp2:ex2.prp:=by
 have h1:Qda (.mk 2 0 [97] [] 0)=true:=by kernel_rfl
 have h2:Qda (.mk 2 0 [98] [] 4)=true:=by kernel_rfl
 have h3:Qda (.mk 2 0 [99] [] 8)=true:=by kernel_rfl
 simp[ex2,Ex.prp,Ex.prpL,h1,h2,h3];decide
theorem cs2:QcN ex2<1000000000-1:=by decide
section
variable {H:ZI}
theorem ok17 {tx:ZG} {e:Ex} {s w:ZG} (hl:tx.length<4611686018427387904) (hr:Qz tx=(e,0,0)) (he:e.prp) (hc:QcN e<1000000000-1) (hL:(az e []).length<=140737488355328) (hs:QcB e=(s,0)) :
 Ok Tryz.prog 17 [st (B tx),st (B w)] H (.ret (bl (decide (s=w)))) H:=by
 have h11:=λH=>Qhv (H:=H) (l:=tx) hl;have h28:=λH=>Qo2 (H:=H) he hc hL;rw[hr]at h11;rw[hs]at h28;have hv:e.v=.agg e.c:=by cases e; rfl
 have hc5:=Ex.c_len e;have hcok:QF e.c:=by cases e; intro s hs; simp[Ex.c]at hs; rcases hs with rfl|rfl|rfl|rfl|rfl<;>rfl
 have hcc:e.c.take 5=e.c:=by rw[<-hc5,VI]
 simp only[hv,QG]at h11 h28;generalize e.c=c at *;refine Qt hm Tryz.func17 c17 (by simp) λZ => ?_;simp[i17,r17];refine Qb (h11 _) ?_;simp[hc5,hcc];refine⟨hcok,?_⟩;refine Qb (h28 _) ?_;simp;exact Qq 3 Z rfl (by simp)
theorem ok10:Ok Tryz.prog 10 [] H (.ret (bl true)) H:=by
 have hD:=Qb1 (P:=Tryz.prog) hm;have h11:=λH=>Qhv (H:=H) (l:=tx1) (by decide);have h13:=λH=>Qne ex1 (by simp[ex1,Ex.sm,Ex.smL]) H;have h17:=λH=>ok17 (H:=H) (tx:=tx2) (w:=tw2) (by decide) rd2 pp2 cs2 (by rw[pr2]; decide) sh2;rw[rd1]at h11;simp only[decide_true]at h17;refine Qk9 hm Tryz.func10 c10 rfl λZ => ?_;rw[show i10=.seq (IC.nth 0 i10) (.seq (IC.nth 1 i10) (.seq (IC.nth 2 i10) (IC.tl 3 i10)))from rfl];generalize ht:IC.tl 3 i10=t3;refine WI.seq hD ?_;simp[IC.nth,i10];refine WI.seq hD ?_;simp;refine Qb (h11 _) ?_;simp[ex1,Ex.v,Ex.c,QG];refine WI.seq hD ?_;simp;refine⟨rfl,?_⟩;refine WI.keep [0,1,2,3] ?_;simp;refine WI.tell (Qat.give Z 2 2 rfl rfl) ?_;simp[AO.gv,AO.dead];refine WI.tell (Qat.give Z 3 2 rfl rfl) ?_;simp[AO.gv,AO.dead];refine WI.of_X hD ?_;rw[<-ht];simp[IC.tl,i10,r10];refine QL (r:=bl true) (λ_=>(OkP.le ?_ (h13 _).toP).toOk) ?_
 . simp only[ex1,Ex.v,Ex.cL,Ex.c,Vv,VG,VE,List.map,SV.strip,Vh,VH];repeat first
    |exact leL.nil
    |refine leL.cons ?_ ?_
    |exact SV.le.refl _
    |exact QdA
    |refine QiK ?_ _
    |refine QeW ?_
 simp;refine Qfn (r:=bl true) (λ_=>h17 _) ?_;simp;exact Qq 3 Z rfl (by simp)
end
theorem QM {c:Cx} {d:Nat} (s:ZG) {r:Rd} (h:Gd c d r):Gd c d (t2 c s r)/\r.a<=(t2 c s r).a:=QcI s r h
theorem Qh0 {c:Cx} {s:ZG} {r:Rd} (h:(t2 c s r).e=0):r.e=0/\(t2 c s r).a=r.a+1:=by
 unfold t2 Qj at *;split at h
 . rename_i hp;rw[Zr hp];exact⟨(QhU hp).1,rfl⟩
 . exfalso;simp only[Qg]at h;split at h
   . exact absurd h (show ¬ (11:Int)=0 by decide)
   . rename_i h2; exact h2 h
theorem QsP {c:Cx} {d:Nat} {orP:Rd->Ex×Rd} (hk:Kp c d orP):∀ (n:Nat) (l:List Ex) (r:Rd),Gd c d r->Gd c d (Qcg c orP n l r).2/\r.a<=(Qcg c orP n l r).2.a
 |0,l,r,h=>⟨h,Vb _⟩
 |n+1,l,r,h=>by
  rw[Qcg];split
  . obtain⟨h1,h2⟩:=QM [44] h;have h3:Gd c d (if l.length=32/\QdM c (t2 c [44] r)=true then Qg c 12 (t2 c [44] r)else t2 c [44] r)/\(if l.length=32/\QdM c (t2 c [44] r)=true then Qg c 12 (t2 c [44] r)else t2 c [44] r).a=(t2 c [44] r).a:=by
     split
     . obtain⟨h4,h5,_⟩:=QfR (e:=12) (by decide) h1; exact⟨h4,h5⟩
     . exact⟨h1,rfl⟩
    dsimp only;generalize (if l.length=32/\QdM c (t2 c [44] r)=true then Qg c 12 (t2 c [44] r)else t2 c [44] r)=r2 at h3 ⊢;obtain⟨h6,h7⟩:=hk _ h3.1;obtain⟨h8,h9⟩:=QsP hk n (l++[(orP r2).1]) _ h6;exact⟨h8,by omega⟩
  . exact⟨h,Vb _⟩
theorem QrC {c:Cx} {d:Nat} {orP:Rd->Ex×Rd} (hk:Kp c d orP):Kp c d (QeQ c orP):=by
 intro r h;obtain⟨h1,h2⟩:=hk r h;obtain⟨h3,h4⟩:=QsP hk c.ts.length [(orP r).1] _ h1;exact⟨h3,Vf h2 h4⟩
def IC.tl:Nat->IC->IC
 |0,a=>a
 |k+1,.seq _ b=>IC.tl k b
 |_,a=>a
def IC.nth:Nat->IC->IC
 |0,.seq a _=>a
 |k+1,.seq _ b=>IC.nth k b
 |_,a=>a
abbrev nl:SV:=.val (.slice none 0 0)
@[simp] theorem Ex.take6 (e:Ex) (x:SV):List.take 6 (e.c++[x])=e.c++[x]:=VD (by simp)
def aZ:AO:=⟨[st (B []),nl,bl false,nl,st (B []),V 0],89,0,true⟩
def Qbq (l:List Ql):AO:=⟨rws Ql.c l,91,l.length,true⟩
theorem Ql.len (s:Ql):s.c.length=7:=by simp[Ql.c]
theorem Ql.und (n:Nat) (s:Ql):SV.underL n s.c=true:=by simp[Ql.c,SV.underL,SV.underL_append,Ex.und]
@[simp] theorem QHA (n:Nat) (ks:List Nat) (L:ZI) (d:Nat) (l:List Ql):(rws Ql.c l).map (SV.fz n ks L (d+1))=rws Ql.c l:=QcY _ _ _ _ (Qfj (Ql.und _) l)
theorem QgB {c:Cx} {d:Nat} {r:Rd} {P:Prop} [Decidable P] (h:Gd c d r):Gd c d (if P then Qg c 12 r else r)/\(if P then Qg c 12 r else r).a=r.a/\((if P then Qg c 12 r else r).e=0->r.e=0):=by
 split
 . obtain⟨h4,h5,h6⟩:=QfR (e:=12) (by decide) h; exact⟨h4,h5,λh=>absurd h h6⟩
 . exact⟨h,rfl,λh=>h⟩
theorem Quu {c:Cx} {d:Nat} {orP:Rd->Ex×Rd} (hk:Kp c d orP) (l:List Ql) {r:Rd} (h:Gd c d r):Gd c d (Qbp c orP l r).2/\r.a<=(Qbp c orP l r).2.a/\((Qbp c orP l r).2.e=0->r.a<(Qbp c orP l r).2.a):=by
 unfold Qbp;dsimp only;obtain⟨h1,h2,_⟩:=QgB (P:=l.length=32/\QV c r=true) h;generalize (if l.length=32/\QV c r=true then Qg c 12 r else r)=r1 at *;obtain⟨h3,h4⟩:=QcC r1 h1;obtain⟨h5,h6⟩:=QM [61] h3;obtain⟨h7,h8⟩:=hk _ h5;obtain⟨h9,h10⟩:=QM [59] h7;refine⟨h9,by omega,λhe => ?_⟩;have:=(Qh0 he).2;omega
section
variable {H:ZI} {c:Cx} {r:Rd} {j:Nat} {G:ZI} {nm:ZG} {xW:SV} {wh:List Ex} {hid:Bool} {sets:List Ql} {p:Int}
theorem Qm6 {d:Nat} {orP:Rd->Ex×Rd} (hk:Kp c d orP):∀ (n:Nat) (l:List Ql) (r:Rd),Gd c d r->Gd c d (Qb8 c orP n l r).2/\r.a<=(Qb8 c orP n l r).2.a
 |0,l,r,h=>⟨h,Vb _⟩
 |n+1,l,r,h=>by
  rw[Qb8];split
  . obtain⟨h1,h2,_⟩:=Quu hk l h;obtain⟨h3,h4⟩:=Qm6 hk n (l++[(Qbp c orP l r).1]) _ h1;exact⟨h3,Vf h2 h4⟩
  . exact⟨h,Vb _⟩
end
theorem Xc {P:ZN} {N:Nat} {D:Array Oper->List Nat->List Ins->Bool} {i:IC} {U:Env} {H H':ZI} {K:ZH} (e:H'=H) (h:X P N D i U H' K):X P N D i U H K:=by rw[<-e]; exact h
def Qf8 (a:Qh):SV:=.agg a.c
theorem QA7 (n:Nat) (l:List Int):SV.underL n (QE l)=true:=(SV.underL_iff _ _).2 λs hs=>by
 simp[QE]at hs; obtain⟨a,_,rfl⟩:=hs; rfl
def zS:AO:=⟨[V 0,st (B []),st (B []),V 0,V 0,nl,bl false,nl,nl,nl,nl,V 0],78,0,true⟩
def Qf1 (x:Qc):SV:=.agg x.c
section
variable {H:ZI} {c:Cx} {r:Rd} {j:Nat} {G:ZI} {lb nm:ZG} {lo hi:Int} {xW xS:SV} {wt:List Ex} {all:Bool} {seen:List Int} {p:Int}
theorem Qst {d:Nat}:∀ (n:Nat) (l:List Int) (r:Rd),Gd c d r->Gd c d (QcP c n l r).2/\r.a<=(QcP c n l r).2.a
 |0,l,r,h=>⟨h,Vb _⟩
 |n+1,l,r,h=>by
  rw[QcP];split
  . dsimp only;obtain⟨h1,h2⟩:=QM [44] h;obtain⟨h3,h4,_⟩:=QgB (P:=l.length=32/\(t2 c [44] r).a<c.ts.length/\QbE c { t2 c [44] r with e:=0 } (λt=>decide (t.k=2))=true) h1;generalize (if l.length=32/\(t2 c [44] r).a<c.ts.length/\QbE c { t2 c [44] r with e:=0 } (λt=>decide (t.k=2))=true then Qg c 12 (t2 c [44] r)else t2 c [44] r)=r2 at *;obtain⟨h6,h7⟩:=Qcp r2 h3;obtain⟨h8,h9⟩:=Qst n (l++[(nmR c r2).1]) _ h6;exact⟨h8,by omega⟩
  . exact⟨h,Vb _⟩
theorem QsJ {d:Nat}:Kp c d (Qa3 c):=by
 intro r h;unfold Qa3;split
 . dsimp only;obtain⟨h1,h2⟩:=QM [115,101,101,110] h;obtain⟨h3,h4⟩:=QM [98,121] h1;split
   . obtain⟨h5,h6⟩:=QM [97,108,108] h3;exact⟨h5,by simp only; omega⟩
   . obtain⟨h5,h6⟩:=Qcp _ h3;obtain⟨h7,h8⟩:=Qst c.ts.length [(nmR c (t2 c [98,121] (t2 c [115,101,101,110] r))).1] _ h5;exact⟨h7,by simp only; omega⟩
 . exact⟨h,Vb _⟩
end
@[simp] theorem Qh.c_len (a:Qh):a.c.length=6:=rfl
@[simp] theorem Qh.take6 (a:Qh):List.take 6 a.c=a.c:=rfl
theorem Qh.und (n:Nat) (a:Qh):SV.underL n a.c=true:=by
 simp[Qh.c,an,SV.underL,SV.under,Ex.undL,Qfj (Ql.und n)]
theorem Qh.ok (a:Qh):QF a.c:=by
 intro s hs;simp[Qh.c]at hs;rcases hs with rfl|rfl|rfl|rfl|rfl|rfl<;>rfl
@[simp] theorem Qh.okT (a:Qh):QF a.c=True:=Zz a.ok
theorem Qjn {c:Cx} {d:Nat} (s:ZG):Kp c d (Qbh c s):=by
 intro r h;unfold Qbh;split
 . exact QM s h
 . exact⟨h,Vb _⟩
theorem Qho {c:Cx} {d:Nat} {orP:Rd->Ex×Rd} (hk:Kp c d orP) (s:ZG):Kp c d (Qbm c orP s):=by
 intro r h;unfold Qbm;split
 . obtain⟨h1,h2⟩:=QM s h;obtain⟨h3,h4⟩:=hk _ h1;exact⟨h3,Vf h2 h4⟩
 . exact⟨h,Vb _⟩
theorem QrV {c:Cx} {d:Nat}:Kp c d (Qb2 c):=by
 intro r h;unfold Qb2;split
 . obtain⟨h1,h2⟩:=QM [103,111,116,111] h;obtain⟨h3,h4⟩:=QcC _ h1;obtain⟨h5,h6⟩:=QM [59] h3;exact⟨h5,by simp only; omega⟩
 . exact⟨h,Vb _⟩
theorem Qjq {c:Cx} {d:Nat} {orP:Rd->Ex×Rd} (hk:Kp c d orP):Kp c d (Qaa c orP):=by
 intro r h;unfold Qaa;dsimp only;obtain⟨h1,i1⟩:=QcI [97,99,116,105,111,110] r h;obtain⟨h2,i2⟩:=QcC _ h1;obtain⟨h3,i3⟩:=Qho hk [119,104,101,110] _ h2;obtain⟨h4,i4⟩:=Qjn [104,105,100,100,101,110] _ h3;obtain⟨h5,i5⟩:=QM [123] h4;obtain⟨h6,i6⟩:=Qm6 hk (c.ts.length+1) [] _ h5;obtain⟨h7,i7⟩:=QM [125] h6;obtain⟨h8,i8⟩:=QrV _ h7;exact⟨h8,by omega⟩
theorem QpX {c:Cx} {d:Nat} {orP:Rd->Ex×Rd} (hk:Kp c d orP) {r:Rd} (h1:Gd c d (Qj c [97,99,116,105,111,110] r).2):(Qj c [97,99,116,105,111,110] r).2.a<=(Qaa c orP r).2.a:=by
 unfold Qaa;dsimp only;obtain⟨h2,i2⟩:=QcC _ h1;obtain⟨h3,i3⟩:=Qho hk [119,104,101,110] _ h2;obtain⟨h4,i4⟩:=Qjn [104,105,100,100,101,110] _ h3;obtain⟨h5,i5⟩:=QM [123] h4;obtain⟨h6,i6⟩:=Qm6 hk (c.ts.length+1) [] _ h5;obtain⟨h7,i7⟩:=QM [125] h6;obtain⟨h8,i8⟩:=QrV _ h7;omega
def QJ {α:Type} (F:Rd->α×Rd):Prop:=∀ r,r.e≠0->(F r).2=r
theorem Qgl {c:Cx} {r:Rd} {e:Int} (h:r.e≠0):Qg c e r=r:=by unfold Qg; rw[Zq h]
theorem QbM {c:Cx} {r:Rd} (h:r.e≠0) (s:ZG):Qd c s r=false:=by
 rw[<-Vm]; exact λh2=>h (QhU h2).1
theorem QmI {c:Cx} {r:Rd} (h:r.e≠0):QV c r=false:=by
 rw[<-Vm]; exact λh2=>h (QcV h2).1
theorem QsN {c:Cx} {r:Rd} (h:r.e≠0):Qbb c r=false:=by
 rw[<-Vm]; exact λh2=>h (QcV h2).1
theorem Qe0 {c:Cx} (s:ZG):QJ (Qj c s):=λr h=>by unfold Qj; rw[QbM h,Qgl h]; rfl
theorem Q5 {c:Cx} (s:ZG) {r:Rd} (h:r.e≠0):t2 c s r=r:=Qe0 s r h
theorem QlJ {c:Cx}:QJ (QX c):=λr h=>by unfold QX; rw[QmI h,Qgl h]; rfl
theorem QeL {c:Cx}:QJ (nmR c):=λr h=>by unfold nmR; rw[QsN h,Qgl h]; rfl
theorem Qfz {c:Cx} {r:Rd} (h:r.e≠0) (aa:List (ZG×Int)):QaH c aa r=none:=by
 cases ho:QaH c aa r with
 |none=>rfl
 |some op=>exact absurd (QdY ho).1 h
theorem Qe2 {c:Cx} {aa:List (ZG×Int)} {f:Rd->Ex×Rd} (hf:QJ f):QJ (Q0 c aa f):=by
 intro r h;unfold Q0;rw[hf r h]
 cases c.ts.length with
 |zero=>rfl
 |succ n=>rw[Qa4,Qfz h]
theorem Qn1 {c:Cx} {f:Rd->Ex×Rd} (hf:QJ f):QJ (Qaz c f):=by
 intro r h;unfold Qaz;rw[hf r h,Qfz h];exact hf r h
theorem Qno {c:Cx} {cmp ntP:Rd->Ex×Rd} (hf:QJ cmp):QJ (Qal c cmp ntP):=by
 intro r h;unfold Qal;rw[Zq (by rw[QbM h]; decide)];exact hf r h
theorem Qj3 {c:Cx} {orP facP:Rd->Ex×Rd}:QJ (QC c orP facP):=by
 intro r h;unfold QC;rw[Zr h]
theorem QlY (c:Cx) (d:Nat):QJ (QaT c (lv c d)):=by
 have hn:QJ (lv c d).nt:=by
  cases d with
  |zero=>exact Qno (Qn1 (Qe2 (Qe2 Qj3)))
  |succ d=>exact Qno (Qn1 (Qe2 (Qe2 Qj3)))
 exact Qe2 (Qe2 hn)
theorem QeR {c:Cx} {orP:Rd->Ex×Rd} (s:ZG):QJ (Qbm c orP s):=λr h=>by unfold Qbm; rw[Zq (by rw[QbM h]; decide)]
theorem Qjj {c:Cx} (s:ZG):QJ (Qbh c s):=λr h=>by unfold Qbh; rw[Zq (by rw[QbM h]; decide)]
theorem Qgv {c:Cx}:QJ (Qb2 c):=λr h=>by unfold Qb2; rw[Zq (by rw[QbM h]; decide)]
theorem QwO {c:Cx} {orP:Rd->Ex×Rd} (n:Nat) (l:List Ql):QJ (Qb8 c orP n l):=by
 intro r h
 cases n with
 |zero=>rfl
 |succ n=>rw[Qb8,Zq (λh2=>h h2.1)]
theorem Qoo {c:Cx} {orP:Rd->Ex×Rd}:QJ (Qaa c orP):=by
 intro r h;unfold Qaa;dsimp only;rw[Qe0 _ r h,QlJ r h,QeR _ r h,Qjj _ r h,Q5 _ h,QwO _ _ r h,Q5 _ h,Qgv r h]
section
variable {H:ZI} {c:Cx} {r:Rd} {j:Nat} {G:ZI} {lb:ZG} {w:Ex} {p:Int}
theorem Qn3 {d:Nat} {orP:Rd->Ex×Rd} (hk:Kp c d orP):∀ (n:Nat) (l:List Qh) (r:Rd),Gd c d r->Gd c d (QbY c orP 0 n l r).2/\r.a<=(QbY c orP 0 n l r).2.a
 |0,l,r,h=>⟨h,Vb _⟩
 |n+1,l,r,h=>by
  rw[QbY];split
  . dsimp only;obtain⟨h3,h4,_⟩:=QgB (P:=l.length=10) h;generalize (if l.length=10 then Qg c 12 r else r)=r2 at *;obtain⟨h6,h7⟩:=Qjq hk r2 h3;obtain⟨h8,h9⟩:=Qn3 hk n (l++[(Qaa c orP r2).1]) _ h6;exact⟨h8,by omega⟩
  . exact⟨h,Vb _⟩
end
theorem QAO {c:Cx} {d:Nat} {orP:Rd->Ex×Rd} (hk:Kp c d orP) (x:Qc):Kp c d (QeX c orP x):=by
 intro r h;unfold QeX;dsimp only;obtain⟨g1,i1⟩:=QcI [100,101,97,108] r h;obtain⟨g2,i2⟩:=QcC _ g1;obtain⟨g3,i3⟩:=QM [105,110] g2;obtain⟨g4,i4⟩:=Qcp _ g3;obtain⟨g5,i5⟩:=QM [46,46] g4;obtain⟨g6,i6⟩:=Qcp _ g5;obtain⟨g7,i7⟩:=Qho hk [119,101,105,103,104,116] _ g6;obtain⟨g8,i8⟩:=QsJ _ g7;obtain⟨g9,i9⟩:=QM [59] g8;exact⟨g9,by omega⟩
theorem QDH {c:Cx} {d:Nat} {orP:Rd->Ex×Rd} (hk:Kp c d orP) (x:Qc):Kp c d (Qfg c orP x):=by
 intro r h;unfold Qfg;dsimp only;obtain⟨g1,i1⟩:=QcI [116,117,114,110] r h;obtain⟨g2,i2⟩:=hk _ g1;obtain⟨g3,i3⟩:=QM [123] g2;obtain⟨g4,i4⟩:=Qjq hk _ g3;obtain⟨g5,i5⟩:=Qn3 hk c.ts.length [(Qaa c orP (t2 c [123] (orP (Qj c [116,117,114,110] r).2).2)).1] _ g4;obtain⟨g6,i6⟩:=QM [125] g5;exact⟨g6,by omega⟩
theorem QtH {c:Cx} {d:Nat}:Kp c d (Qbg c):=by
 intro r h;unfold Qbg;split
 . obtain⟨g1,i1⟩:=QcC r h;obtain⟨g2,i2⟩:=QM [58] g1;exact⟨g2,by simp only; omega⟩
 . exact⟨h,Vb _⟩
theorem Qr8 {c:Cx} {d:Nat} {orP:Rd->Ex×Rd} (hk:Kp c d orP):Kp c d (QaE c orP):=by
 intro r h;unfold QaE;dsimp only;obtain⟨g1,i1⟩:=QtH r h;split
 . obtain⟨g2,i2⟩:=QAO hk _ _ g1;exact⟨g2,by omega⟩
 split
 . obtain⟨g2,i2⟩:=QDH hk _ _ g1;exact⟨g2,by omega⟩
 . obtain⟨g2,i2⟩:=QcI [101,110,100] _ g1;obtain⟨g3,i3⟩:=QM [123] g2;obtain⟨g4,i4⟩:=QM [112,97,121] g3;obtain⟨g5,i5⟩:=QrC hk _ g4;obtain⟨g6,i6⟩:=QM [59] g5;obtain⟨g7,i7⟩:=QM [125] g6;exact⟨g7,by simp only; omega⟩
theorem Qrq {c:Cx} {d:Nat} {orP:Rd->Ex×Rd} (hk:Kp c d orP) {r:Rd} (h:Gd c d r) (he:(QaE c orP r).2.e=0):r.a<(QaE c orP r).2.a:=by
 unfold QaE at he ⊢;dsimp only at he ⊢;obtain⟨g1,i1⟩:=QtH r h;split at he
 . rename_i hp;rw[Zr hp];unfold QeX at he ⊢;dsimp only at he ⊢;obtain⟨g1,i1⟩:=QcI [100,101,97,108] _ g1;obtain⟨g2,i2⟩:=QcC _ g1;obtain⟨g3,i3⟩:=QM [105,110] g2;obtain⟨g4,i4⟩:=Qcp _ g3;obtain⟨g5,i5⟩:=QM [46,46] g4;obtain⟨g6,i6⟩:=Qcp _ g5;obtain⟨g7,i7⟩:=Qho hk [119,101,105,103,104,116] _ g6;obtain⟨g8,i8⟩:=QsJ _ g7;have:=(Qh0 he).2;omega
 . rename_i hp;rw[Zq hp];split at he
   . rename_i hp;rw[Zr hp];unfold Qfg at he ⊢;dsimp only at he ⊢;obtain⟨g1,i1⟩:=QcI [116,117,114,110] _ g1;obtain⟨g2,i2⟩:=hk _ g1;obtain⟨g3,i3⟩:=QM [123] g2;obtain⟨g4,i4⟩:=Qjq hk _ g3;obtain⟨g5,i5⟩:=Qn3 hk c.ts.length [(Qaa c orP (t2 c [123] (orP (Qj c [116,117,114,110] (Qbg c r).2).2).2)).1] _ g4;have:=(Qh0 he).2;omega
   . rename_i hp;rw[Zq hp];dsimp only at he ⊢;obtain⟨g2,i2⟩:=QcI [101,110,100] _ g1;obtain⟨g3,i3⟩:=QM [123] g2;obtain⟨g4,i4⟩:=QM [112,97,121] g3;obtain⟨g5,i5⟩:=QrC hk _ g4;obtain⟨g6,i6⟩:=QM [59] g5;have:=(Qh0 he).2;omega
theorem Qc.c_len (x:Qc):x.c.length=12:=rfl
theorem Qc.und (n:Nat) (x:Qc):SV.underL n x.c=true:=by
 simp[Qc.c,an,SV.underL,SV.under,Ex.undL,Qfj (Qh.und n)]
@[simp] theorem Qc.fzm (n:Nat) (ks:List Nat) (L:ZI) (d:Nat) (x:Qc):x.c.map (SV.fz n ks L (d+1))=x.c:=QcY _ _ _ _ (Qc.und _ x)
theorem Qc.ok (x:Qc):QF x.c:=by
 intro s hs;simp[Qc.c]at hs;rcases hs with rfl|rfl|rfl|rfl|rfl|rfl|rfl|rfl|rfl|rfl|rfl|rfl<;>rfl
@[simp] theorem Qc.okT (x:Qc):QF x.c=True:=Zz x.ok
@[simp] theorem Qc.take12 (x:Qc):List.take 12 x.c=x.c:=rfl
@[simp] theorem Qc.len12 (x:Qc):x.c.length=12:=rfl
def lbO (lb:ZG):AO:=⟨[V 0,st (B lb),st (B []),V 0,V 0,nl,bl false,nl,nl,nl,nl,V 0],78,0,true⟩
theorem Qqs {c:Cx} {d:Nat} (l:List Qn):Kp c d (QbU c l):=by
 intro r h;unfold QbU;dsimp only;obtain⟨g0,i0⟩:=QM [118,97,114] h;obtain⟨g1,i1,_⟩:=QgB (P:=l.length=40/\QV c (t2 c [118,97,114] r)=true) g0;generalize (if l.length=40/\QV c (t2 c [118,97,114] r)=true then Qg c 12 (t2 c [118,97,114] r)else t2 c [118,97,114] r)=r1 at *;obtain⟨g2,i2⟩:=QcC _ g1;obtain⟨g3,i3⟩:=QM [61] g2;obtain⟨g4,i4⟩:=Qjn [45] _ g3;obtain⟨g5,i5⟩:=Qcp _ g4;obtain⟨g6,i6⟩:=QM [59] g5;exact⟨g6,by omega⟩
theorem QA2 {c:Cx} {d:Nat} (l:List Qn) {r:Rd} (h:Gd c d r) (he:(QbU c l r).2.e=0):r.a<(QbU c l r).2.a:=by
 unfold QbU at he ⊢;dsimp only at he ⊢;obtain⟨g0,i0⟩:=QM [118,97,114] h;obtain⟨g1,i1,_⟩:=QgB (P:=l.length=40/\QV c (t2 c [118,97,114] r)=true) g0;generalize (if l.length=40/\QV c (t2 c [118,97,114] r)=true then Qg c 12 (t2 c [118,97,114] r)else t2 c [118,97,114] r)=r1 at *;obtain⟨g2,i2⟩:=QcC _ g1;obtain⟨g3,i3⟩:=QM [61] g2;obtain⟨g4,i4⟩:=Qjn [45] _ g3;obtain⟨g5,i5⟩:=Qcp _ g4;have:=(Qh0 he).2;omega
theorem Qp6 {c:Cx} {d:Nat}:∀ (n:Nat) (l:List Qn) (r:Rd),Gd c d r->Gd c d (QbX c n l r).2/\r.a<=(QbX c n l r).2.a
 |0,l,r,h=>⟨h,Vb _⟩
 |n+1,l,r,h=>by
  rw[QbX];split
  . obtain⟨h6,h7⟩:=Qqs l r h;obtain⟨h8,h9⟩:=Qp6 n (l++[(QbU c l r).1]) _ h6;exact⟨h8,by omega⟩
  . exact⟨h,Vb _⟩
theorem Qn.c_len (v:Qn):v.c.length=3:=rfl
theorem Qn.und (n:Nat) (v:Qn):SV.underL n v.c=true:=rfl
def zR:AO:=⟨[st (B []),V 0,nl,nl],36,0,true⟩
def QdR (l:List Qn):AO:=⟨rws Qn.c l,75,l.length,true⟩
def QdP (l:List Qc):AO:=⟨rws Qc.c l,78,l.length,true⟩
def Qld (l:List Ex):Prop:=l.length<2147483648/\∀ e∈l,e.sm
structure Qh.sm (a:Qh):Prop where
 wh:Qld a.wh
 len:a.sets.length<2147483648
 sets:∀ s∈a.sets,s.e.sm
structure Qc.sm (x:Qc):Prop where
 wt:Qld x.wt
 seen:x.seen.length<2147483648
 who:Qld x.who
 len:x.acts.length<2147483648
 acts:∀ a∈x.acts,a.sm
 pays:Qld x.pays
structure Qy.sm (r:Qy):Prop where
 vars:r.vars.length<2147483648
 len:r.stages.length<2147483648
 stages:∀ x∈r.stages,x.sm
section
variable {H:ZI}
theorem QnJ (n:Nat) (r:Qy):SV.underL n r.c=true:=by
 simp[Qy.c,SV.underL,SV.under,Qfj (Qn.und _),Qfj (Qc.und _)]
end
theorem Qwo {c:Cx}:QJ (Qbg c):=λr h=>by unfold Qbg; rw[Zq (by rw[QmI h]; decide)]
theorem Qhh {c:Cx}:QJ (Qa3 c):=λr h=>by unfold Qa3; rw[Zq (by rw[QbM h]; decide)]
theorem QlM {c:Cx} {orP:Rd->Ex×Rd} (ho:QJ orP):QJ (QeQ c orP):=by
 intro r h;unfold QeQ;rw[ho r h]
 cases c.ts.length with
 |zero=>rfl
 |succ n=>rw[Qcg,Zq (by rw[QbM h]; decide)]
theorem QnP {c:Cx} {orP:Rd->Ex×Rd} (ho:QJ orP):QJ (QaE c orP):=by
 intro r h;unfold QaE;dsimp only;rw[Qwo r h,Zq (by rw[QbM h]; decide),Zq (by rw[QbM h]; decide)];dsimp only;rw[Qe0 _ r h,Q5 _ h,Q5 _ h,QlM ho r h,Q5 _ h,Q5 _ h]
def QbJ (r:Qy):SV:=.agg r.c
theorem Qw9 (e p:Int):SV.le (.tup [.agg [st (B []),V 0,nl,nl],.agg [V e,V p]]) (.tup [QbJ QfK,QG e p]) :=
 Ql0 (leL.cons (QeW (leL.cons (SV.le.refl _) (leL.cons (SV.le.refl _) (leL.cons QdA (leL.cons QdA leL.nil))))) (leL.cons (SV.le.refl _) leL.nil))
theorem gPow : Tryz.prog.globalNamed "internal/strconv.uint64pow10" = some 3 := by kernel_rfl
theorem QCc {S : St} (h : S.GL) : Lib.TabIs Tryz.prog S.w "internal/strconv.uint64pow10" .u64 Lib.pow10Tab := by
 obtain⟨h1,T,h2⟩:=h 3 _ rfl;generalize hus:(Lib.pow10Tab.map λz=>Value.int .u64 z)=us at h1 h2;unfold Lib.TabIs World.var?;rw[gPow,hus];simp only[Option.bind_some];unfold World.shape? at h2;split at h2
 . rename_i c e f hh;rw[hh];simp only[Option.some.injEq,Prod.mk.injEq]at h2 ⊢;obtain⟨_,h2⟩:=h2;apply Array.ext
   . simpa using h2
   . intro i hi1 hi2;have h3:=h1.1 i us[i] (Ve (by simpa using hi2));have e:((⟨3,0,none⟩:Addr).add i)=⟨3,i,none⟩:=by unfold Addr.add; split<;>simp_all
     rw[e]at h3;unfold World.cell? at h3;simp only[hh]at h3;simp at h3;rw[V2 hi1]at h3;simpa using h3
 . cases h2
theorem VRs1 {S:St} {a:Value} {vs:ZK} (h:VRs S [.val a] vs):vs=[a]:=by
 obtain⟨h1,h2⟩:=h
 match vs,h1 with
 |[x],_ =>
  have hx:=h2 0 _ x rfl rfl
  cases hx; rfl
def QoR (n:Int):ZG:=Lib.itoa n
theorem Qxr {n:Int} (h:0<=n):QoR n=QaC n:=by
 unfold QoR Lib.itoa QaC;rw[Zq (by omega)]
theorem QwY {H:ZI} (n:Int) (h0 : -9223372036854775808<=n) (h1:n<=9223372036854775807):Ok Tryz.prog 106 [V n] H (.ret (st (B (QoR n)))) H :=
 Ok.lib (enters_of Tryz.func106 (by kernel_rfl) rfl) λS vs hS hv=>by
  rw[VRs1 hv];refine(Tryz.strconv_Itoa n h0 h1 S.w (QCc hS.gl)).mono ?_;rintro e w' ⟨rfl,k,os,rfl⟩;exact⟨rfl,Lib.below_grow _ _ (Vb _) _ _⟩
theorem Qft {n:Int} (h0:0<=n) (h1:n<=9223372036854775807):NumK n:=λH=>by
 rw[<-Qxr h0]; exact QwY n (by omega) h1
theorem QfC {α:Type} {c:α->ZJ} {w:Nat} (hc:∀ a,(c a).length=w) {l:List α} {i:Nat} (h:i<l.length):((rws c l).drop (i*w)).take w=c l[i]:=by
 rw[Qej hc h,VP (hc _)]
theorem Ex.okc:∀ e:Ex,QF e.c
 |.mk op n nm l p=>by
  intro s hs; simp[Ex.c]at hs;rcases hs with rfl|rfl|rfl|rfl|rfl<;>rfl
theorem Ql.ok (s:Ql):QF s.c:=by
 intro x hx;rw[Ql.c]at hx;rcases Vd.1 hx with rfl|hx
 . rfl
 . rcases Vt.1 hx with hx|hx
   . exact Ex.okc s.e x hx
   . rw[VX.1 hx]; rfl
@[simp] theorem Ql.okT (s:Ql):QF s.c=True:=Zz s.ok
@[simp] theorem Ql.take7 (s:Ql):List.take 7 s.c=s.c:=VD (V0 s.len)
section
variable {H:ZI}
theorem QBk {l:List Qc} (hl:l.length<2147483648) {C:ZP} {p:SV} (hf:∀ e∈l,Ok Tryz.prog C [.agg e.c,p] H (.ret (bl false)) H) {N:Nat} {K:ZH} (ai:∀ U,K (.exit 0) U H) :
 ∀ (m i:Nat) (U:Env),i+m=l.length->U.get 0=.slc (rws Qc.c l) l.length->U.get 1=.fn (.func C) [] [p]->U.get 7=V l.length->U.get 8=V i->LI Tryz.prog N Qf QlK U H K:=by
 have hlen:=QaF Qc.c_len l;intro m
 induction m with
 |zero =>
  intro i U hi h0 h1 h7 h8;refine Qp hm QlK.eq_1 ?_;have e:i=l.length:=by omega
  subst e;simp[h0,h1,h7,h8];exact ai _
 |succ m ih =>
  intro i U hi h0 h1 h7 h8;refine Qp hm QlK.eq_1 ?_;have hlt:i<l.length:=by omega
  have ax:(i:Int)<l.length:=by omega
  have hg:=QfC (c:=Qc.c) Qc.c_len hlt;have hfe:=hf _ (Vp hlt);generalize l[i]=e at hg hfe

  simp[h0,h1,h7,h8,ax,hg,hlen];refine⟨by omega,?_⟩;refine Qio (H':=H) (out:=.ret (bl false)) (by simpa using hfe) ?_;simp[h0,h1,h7,h8];refine ih (i+1) _ (by omega) ?_ ?_ ?_ ?_;all_goals simp[Qaj (show i<9223372036854775807 by omega)]
theorem Qwj {l:List Qc} (hl:l.length<2147483648) {C:ZP} {p:SV} (hp:p.under H.length=true) (hf:∀ e∈l,Ok Tryz.prog C [.agg e.c,p] H (.ret (bl false)) H) :
 Ok Tryz.prog 184 [.slc (rws Qc.c l) l.length,.fn (.func C) [] [p]] H (.ret (V (-1))) H:=by
 refine Qt hm Tryz.func184 c184 (by simp) λZ => ?_;simp[i184,r184];refine QBk hl hf (λU => ?_) l.length 0 _ (by omega) (by simp) (by simp) (by simp) (by simp);simp;exact Qi
theorem Qzu {l:List Qc} (hl:l.length<2147483648) {C:ZP} {p:SV} (hp:p.under H.length=true) (hf:∀ e∈l,Ok Tryz.prog C [.agg e.c,p] H (.ret (bl false)) H) :
 Ok Tryz.prog 152 [.slc (rws Qc.c l) l.length,.fn (.func C) [] [p]] H (.ret (bl false)) H:=by
 have h:=Qwj hl hp hf;refine Qt hm Tryz.func152 c152 (by simp) λZ => ?_;simp[i152,r152];refine Qb h ?_;simp;exact Qi
theorem QB9 {x:Qc} {R:ZP} {j T:Nat} (hj:H[j]? = some ⟨[.fn (.func R) [] []],T,0,true⟩) (hR:∀ L,Ok Tryz.prog R [.agg x.c] (H++L) (.ret (bl true)) (H++L)) :
 Ok Tryz.prog 153 [.agg x.c,rp j] H (.ret (bl false)) H:=by
 have hlt:=Qk hj;have e1:∀ L,Qo (H++L) j 0=[.fn (.func R) [] []]:=λL=>Q7 (o:=⟨[.fn (.func R) [] []],T,0,true⟩) (by rw[Vc hlt]; exact hj) rfl;have e2:Qo H j 0=[.fn (.func R) [] []]:=Q7 hj rfl;refine Qt hm Tryz.func153 c153 (by simp[rp]) λZ => ?_;simp[i153,r153,rp,e1]

 refine Qb (hR _) ?_;simp;exact Qq 3 Z rfl (by simp)
theorem QCA {l:List Qc} (hl:l.length<2147483648) {R:ZP} (hR:∀ x∈l,∀ L,Ok Tryz.prog R [.agg x.c] (H++L) (.ret (bl true)) (H++L)) :
 Ok Tryz.prog 103 [.slc (rws Qc.c l) l.length,.fn (.func R) [] []] H (.ret (bl true)) H:=by
 have h:=Qzu hl (H:=H++[⟨[.fn (.func R) [] []],95,0,true⟩]) (C:=153) (p:=.ptr (.own H.length 0 0 0 0) 0) (by simp[SV.under]) λx hx=>QB9 (R:=R) (j:=H.length) (T:=95) (by simp) λL=>by rw[Vr]; exact hR x hx _
 refine Qt hm Tryz.func103 c103 (by simp) λZ => ?_;simp[i103,r103];refine Qb h ?_;simp;exact Qq 3 Z rfl (by simp)
theorem QEH {l:List Qh} (hl:l.length<2147483648) {C:ZP} {p:SV} (hf:∀ e∈l,Ok Tryz.prog C [.agg e.c,p] H (.ret (bl false)) H) {N:Nat} {K:ZH} (ai:∀ U,K (.exit 0) U H) :
 ∀ (m i:Nat) (U:Env),i+m=l.length->U.get 0=.slc (rws Qh.c l) l.length->U.get 1=.fn (.func C) [] [p]->U.get 7=V l.length->U.get 8=V i->LI Tryz.prog N Qf QkZ U H K:=by
 have hlen:=QaF Qh.c_len l;intro m
 induction m with
 |zero =>
  intro i U hi h0 h1 h7 h8;refine Qp hm QkZ.eq_1 ?_;have e:i=l.length:=by omega
  subst e;simp[h0,h1,h7,h8];exact ai _
 |succ m ih =>
  intro i U hi h0 h1 h7 h8;refine Qp hm QkZ.eq_1 ?_;have hlt:i<l.length:=by omega
  have ax:(i:Int)<l.length:=by omega
  have hg:=QfC (c:=Qh.c) Qh.c_len hlt;have hfe:=hf _ (Vp hlt);generalize l[i]=e at hg hfe

  simp[h0,h1,h7,h8,ax,hg,hlen];refine⟨by omega,?_⟩;refine Qio (H':=H) (out:=.ret (bl false)) (by simpa using hfe) ?_;simp[h0,h1,h7,h8];refine ih (i+1) _ (by omega) ?_ ?_ ?_ ?_;all_goals simp[Qaj (show i<9223372036854775807 by omega)]
theorem Qyb {l:List Qh} (hl:l.length<2147483648) {C:ZP} {p:SV} (hp:p.under H.length=true) (hf:∀ e∈l,Ok Tryz.prog C [.agg e.c,p] H (.ret (bl false)) H) :
 Ok Tryz.prog 205 [.slc (rws Qh.c l) l.length,.fn (.func C) [] [p]] H (.ret (V (-1))) H:=by
 refine Qt hm Tryz.func205 c205 (by simp) λZ => ?_;simp[i205,r205];refine QEH hl hf (λU => ?_) l.length 0 _ (by omega) (by simp) (by simp) (by simp) (by simp);simp;exact Qi
theorem QBG {l:List Qh} (hl:l.length<2147483648) {C:ZP} {p:SV} (hp:p.under H.length=true) (hf:∀ e∈l,Ok Tryz.prog C [.agg e.c,p] H (.ret (bl false)) H) :
 Ok Tryz.prog 187 [.slc (rws Qh.c l) l.length,.fn (.func C) [] [p]] H (.ret (bl false)) H:=by
 have h:=Qyb hl hp hf;refine Qt hm Tryz.func187 c187 (by simp) λZ => ?_;simp[i187,r187];refine Qb h ?_;simp;exact Qi
theorem QyF {x:Qh} {R:ZP} {j T:Nat} (hj:H[j]? = some ⟨[.fn (.func R) [] []],T,0,true⟩) (hR:∀ L,Ok Tryz.prog R [.agg x.c] (H++L) (.ret (bl true)) (H++L)) :
 Ok Tryz.prog 188 [.agg x.c,rp j] H (.ret (bl false)) H:=by
 have hlt:=Qk hj;have e1:∀ L,Qo (H++L) j 0=[.fn (.func R) [] []]:=λL=>Q7 (o:=⟨[.fn (.func R) [] []],T,0,true⟩) (by rw[Vc hlt]; exact hj) rfl;have e2:Qo H j 0=[.fn (.func R) [] []]:=Q7 hj rfl;refine Qt hm Tryz.func188 c188 (by simp[rp]) λZ => ?_;simp[i188,r188,rp,e1,Qh.c_len]

 refine Qb (hR _) ?_;simp;exact Qq 3 Z rfl (by simp)
theorem QBZ {l:List Qh} (hl:l.length<2147483648) {R:ZP} (hR:∀ x∈l,∀ L,Ok Tryz.prog R [.agg x.c] (H++L) (.ret (bl true)) (H++L)) :
 Ok Tryz.prog 155 [.slc (rws Qh.c l) l.length,.fn (.func R) [] []] H (.ret (bl true)) H:=by
 have h:=QBG hl (H:=H++[⟨[.fn (.func R) [] []],148,0,true⟩]) (C:=188) (p:=.ptr (.own H.length 0 0 0 0) 0) (by simp[SV.under]) λx hx=>QyF (R:=R) (j:=H.length) (T:=148) (by simp) λL=>by rw[Vr]; exact hR x hx _
 refine Qt hm Tryz.func155 c155 (by simp) λZ => ?_;simp[i155,r155];refine Qb h ?_;simp;exact Qq 3 Z rfl (by simp)
theorem QDh {l:List Ql} (hl:l.length<2147483648) {C:ZP} {p:SV} (hf:∀ e∈l,Ok Tryz.prog C [.agg e.c,p] H (.ret (bl false)) H) {N:Nat} {K:ZH} (ai:∀ U,K (.exit 0) U H) :
 ∀ (m i:Nat) (U:Env),i+m=l.length->U.get 0=.slc (rws Ql.c l) l.length->U.get 1=.fn (.func C) [] [p]->U.get 7=V l.length->U.get 8=V i->LI Tryz.prog N Qf Qkx U H K:=by
 have hlen:=QaF Ql.len l;intro m
 induction m with
 |zero =>
  intro i U hi h0 h1 h7 h8;refine Qp hm Qkx.eq_1 ?_;have e:i=l.length:=by omega
  subst e;simp[h0,h1,h7,h8];exact ai _
 |succ m ih =>
  intro i U hi h0 h1 h7 h8;refine Qp hm Qkx.eq_1 ?_;have hlt:i<l.length:=by omega
  have ax:(i:Int)<l.length:=by omega
  have hg:=QfC (c:=Ql.c) Ql.len hlt;have hfe:=hf _ (Vp hlt);generalize l[i]=e at hg hfe

  simp[h0,h1,h7,h8,ax,hg,hlen];refine⟨by omega,?_⟩;refine Qio (H':=H) (out:=.ret (bl false)) (by simpa using hfe) ?_;simp[h0,h1,h7,h8];refine ih (i+1) _ (by omega) ?_ ?_ ?_ ?_;all_goals simp[Qaj (show i<9223372036854775807 by omega)]
theorem Qze {l:List Ql} (hl:l.length<2147483648) {C:ZP} {p:SV} (hp:p.under H.length=true) (hf:∀ e∈l,Ok Tryz.prog C [.agg e.c,p] H (.ret (bl false)) H) :
 Ok Tryz.prog 217 [.slc (rws Ql.c l) l.length,.fn (.func C) [] [p]] H (.ret (V (-1))) H:=by
 refine Qt hm Tryz.func217 c217 (by simp) λZ => ?_;simp[i217,r217];refine QDh hl hf (λU => ?_) l.length 0 _ (by omega) (by simp) (by simp) (by simp) (by simp);simp;exact Qi
theorem Qxp {l:List Ql} (hl:l.length<2147483648) {C:ZP} {p:SV} (hp:p.under H.length=true) (hf:∀ e∈l,Ok Tryz.prog C [.agg e.c,p] H (.ret (bl false)) H) :
 Ok Tryz.prog 206 [.slc (rws Ql.c l) l.length,.fn (.func C) [] [p]] H (.ret (bl false)) H:=by
 have h:=Qze hl hp hf;refine Qt hm Tryz.func206 c206 (by simp) λZ => ?_;simp[i206,r206];refine Qb h ?_;simp;exact Qi
theorem Qvp {x:Ql} {R:ZP} {j T:Nat} (hj:H[j]? = some ⟨[.fn (.func R) [] []],T,0,true⟩) (hR:∀ L,Ok Tryz.prog R [.agg x.c] (H++L) (.ret (bl true)) (H++L)) :
 Ok Tryz.prog 207 [.agg x.c,rp j] H (.ret (bl false)) H:=by
 have hlt:=Qk hj;have e1:∀ L,Qo (H++L) j 0=[.fn (.func R) [] []]:=λL=>Q7 (o:=⟨[.fn (.func R) [] []],T,0,true⟩) (by rw[Vc hlt]; exact hj) rfl;have e2:Qo H j 0=[.fn (.func R) [] []]:=Q7 hj rfl;refine Qt hm Tryz.func207 c207 (by simp[rp]) λZ => ?_;simp[i207,r207,rp,e1,Ql.len]

 refine Qb (hR _) ?_;simp;exact Qq 3 Z rfl (by simp)
theorem QA1 {l:List Ql} (hl:l.length<2147483648) {R:ZP} (hR:∀ x∈l,∀ L,Ok Tryz.prog R [.agg x.c] (H++L) (.ret (bl true)) (H++L)) :
 Ok Tryz.prog 190 [.slc (rws Ql.c l) l.length,.fn (.func R) [] []] H (.ret (bl true)) H:=by
 have h:=Qxp hl (H:=H++[⟨[.fn (.func R) [] []],221,0,true⟩]) (C:=207) (p:=.ptr (.own H.length 0 0 0 0) 0) (by simp[SV.under]) λx hx=>Qvp (R:=R) (j:=H.length) (T:=221) (by simp) λL=>by rw[Vr]; exact hR x hx _
 refine Qt hm Tryz.func190 c190 (by simp) λZ => ?_;simp[i190,r190];refine Qb h ?_;simp;exact Qq 3 Z rfl (by simp)
theorem QAR {l:List Int} (hl:l.length<2147483648) {C:ZP} {p:SV} (hf:∀ e∈l,Ok Tryz.prog C [V e,p] H (.ret (bl false)) H) {N:Nat} {K:ZH} (ai:∀ U,K (.exit 0) U H) :
 ∀ (m i:Nat) (U:Env),i+m=l.length->U.get 0=.slc (QE l) l.length->U.get 1=.fn (.func C) [] [p]->U.get 7=V l.length->U.get 8=V i->LI Tryz.prog N Qf QjB U H K:=by
 have hlen:=Qyl l;intro m
 induction m with
 |zero =>
  intro i U hi h0 h1 h7 h8;refine Qp hm QjB.eq_1 ?_;have e:i=l.length:=by omega
  subst e;simp[h0,h1,h7,h8];exact ai _
 |succ m ih =>
  intro i U hi h0 h1 h7 h8;refine Qp hm QjB.eq_1 ?_;have hlt:i<l.length:=by omega
  have ax:(i:Int)<l.length:=by omega
  have hg:=Qpg (l:=l) (k:=i) (by simpa using hlt);have hfe:=hf _ (Vp hlt);generalize l[i]=e at hg hfe;have hg:∀ h,(QE l)[i]'(h)=V e:=λh=>hg;simp[h0,h1,h7,h8,hlt,ax,hg,hlen];refine⟨by omega,?_⟩;refine Qio (H':=H) (out:=.ret (bl false)) (by simpa using hfe) ?_;simp[h0,h1,h7,h8];refine ih (i+1) _ (by omega) ?_ ?_ ?_ ?_;all_goals simp[Qaj (show i<9223372036854775807 by omega)]
theorem QB0 {l:List Int} (hl:l.length<2147483648) {C:ZP} {p:SV} (hp:p.under H.length=true) (hf:∀ e∈l,Ok Tryz.prog C [V e,p] H (.ret (bl false)) H) :
 Ok Tryz.prog 216 [.slc (QE l) l.length,.fn (.func C) [] [p]] H (.ret (V (-1))) H:=by
 refine Qt hm Tryz.func216 c216 (by simp) λZ => ?_;simp[i216,r216];refine QAR hl hf (λU => ?_) l.length 0 _ (by omega) (by simp) (by simp) (by simp) (by simp);simp;exact Qi
theorem Qzh {l:List Int} (hl:l.length<2147483648) {C:ZP} {p:SV} (hp:p.under H.length=true) (hf:∀ e∈l,Ok Tryz.prog C [V e,p] H (.ret (bl false)) H) :
 Ok Tryz.prog 203 [.slc (QE l) l.length,.fn (.func C) [] [p]] H (.ret (bl false)) H:=by
 have h:=QB0 hl hp hf;refine Qt hm Tryz.func203 c203 (by simp) λZ => ?_;simp[i203,r203];refine Qb h ?_;simp;exact Qi
theorem QxD {x:Int} {R:ZP} {j T:Nat} (hj:H[j]? = some ⟨[.fn (.func R) [] []],T,0,true⟩) (hR:∀ L,Ok Tryz.prog R [V x] (H++L) (.ret (bl true)) (H++L)) :
 Ok Tryz.prog 204 [V x,rp j] H (.ret (bl false)) H:=by
 have hlt:=Qk hj;have e1:∀ L,Qo (H++L) j 0=[.fn (.func R) [] []]:=λL=>Q7 (o:=⟨[.fn (.func R) [] []],T,0,true⟩) (by rw[Vc hlt]; exact hj) rfl;have e2:Qo H j 0=[.fn (.func R) [] []]:=Q7 hj rfl;refine Qt hm Tryz.func204 c204 (by simp[rp]) λZ => ?_;simp[i204,r204,rp,e2];have hR:=hR []; simp only[VE]at hR;refine Qb (hR) ?_;simp;exact Qi
theorem QxT {l:List Int} (hl:l.length<2147483648) {R:ZP} (hR:∀ x∈l,∀ L,Ok Tryz.prog R [V x] (H++L) (.ret (bl true)) (H++L)) :
 Ok Tryz.prog 186 [.slc (QE l) l.length,.fn (.func R) [] []] H (.ret (bl true)) H:=by
 have h:=Qzh hl (H:=H++[⟨[.fn (.func R) [] []],168,0,true⟩]) (C:=204) (p:=.ptr (.own H.length 0 0 0 0) 0) (by simp[SV.under]) λx hx=>QxD (R:=R) (j:=H.length) (T:=168) (by simp) λL=>by rw[Vr]; exact hR x hx _
 refine Qt hm Tryz.func186 c186 (by simp) λZ => ?_;simp[i186,r186];refine Qb h ?_;simp;exact Qq 3 Z rfl (by simp)
end
structure QbB (l:List Ex):Prop where
 len:l.length<=100
 prp:∀ e∈l,e.prp
 cst:Qap l<1000000000
structure Qcy (s:ZG):Prop where
 len:s.length<4611686018427387904
 ok:QaR s=true
structure Ql.prp (s:Ql):Prop where
 nm:Qcy s.nm
 e:QbB [s.e]
structure Qh.prp (a:Qh):Prop where
 nm:Qcy a.nm
 wh1:a.wh.length<=1
 wh:QbB a.wh
 sets:∀ s∈a.sets,s.prp
 len:a.sets.length<2147483648
 go:a.go=[]\/Qcy a.go
structure Qc.dl (x:Qc):Prop where
 nm:Qcy x.nm
 lo:0<=x.lo/\x.lo<=1000000000
 hi:0<=x.hi/\x.hi<=1000000000
 seen:∀ n∈x.seen,0<=n/\n<=1000000000
 len:x.seen.length<2147483648
 wt1:x.wt.length<=1
 wt:QbB x.wt
 all:x.all=true->x.seen=[]
section
variable {H:ZI}
theorem Qjh {l:List Ex} (h:QbB l):Ok Tryz.prog 72 [an l] H (.ret (bl true)) H:=ok72 h.len h.prp h.cst
theorem Qgt {s:ZG} (h:Qcy s):Ok Tryz.prog 101 [st (B s)] H (.ret (bl true)) H:=by
 have:=QqQ (H:=H) h.len
 rwa [h.ok]at this
theorem Qnu {a n b:Int} (h1:a<=n) (h2:n<=b):Ok Tryz.prog 102 [V a,V n,V b] H (.ret (bl true)) H:=by
 have:=Qrj (H:=H) a n b
 rwa [decide_eq_true (And.intro h1 h2)]at this
theorem Qnn {n:Int} (h1:0<=n) (h2:n<=1000000000):Ok Tryz.prog 185 [V n] H (.ret (bl true)) H:=by
 have h:=λH=>Qnu (H:=H) h1 h2;refine Qt hm Tryz.func185 c185 (by simp) λZ => ?_;simp -implicitDefEqProofs[i185,r185];refine Qb (h _) ?_;simp -implicitDefEqProofs;exact Qi
def m189:IC :=
 (.seq
  (.reg [
    ⟨(some 1),none,.e (.box 91 (.t 0))⟩,
    ⟨(some 2),none,.p (.mov (.c (bl false)))⟩])
  (.seq
   (.reg [
     ⟨(some 3),none,.p (.fa 0 (.t 1))⟩,
     ⟨(some 4),none,.p (.ld1 (.t 3))⟩,
     ⟨(some 5),none,.e (.call (.c (.fn (.func 101) [] [])) [(.t 4)])⟩,
     ⟨(some 6),none,.p (.mov (.t 5))⟩,
     ⟨(some 7),(some (6,true)),.p (.fa 1 (.t 1))⟩,
     ⟨(some 8),(some (6,true)),.p (.ldn 5 (.t 7))⟩,
     ⟨(some 9),(some (6,true)),.e (.bsl 25 5 1 [V 0,V 0,st ⟨#[]⟩,.val (.slice none 0 0),V 0] [(0,(.t 8))])⟩,
     ⟨(some 10),(some (6,true)),.e (.call (.c (.fn (.func 72) [] [])) [(.t 9)])⟩,
     ⟨(some 11),none,.p (.pick (.t 6) (.t 10) (.c (bl false)))⟩,
     ⟨(some 2),none,.p (.mov (.t 11))⟩])
   .ret))
theorem d189:Qdn Tryz.prog Qf Tryz.f189 m189 r189=true:=by kernel_rfl
theorem QC9 {s:Ql} (hs:s.prp):Ok Tryz.prog 189 [.agg s.c] H (.ret (bl true)) H:=by
 have h1:=λH=>Qgt (H:=H) hs.nm;have h2:=λH=>(Qjh (H:=H) hs.e).toP;have hce:=Ex.c_len s.e;have ht:∀ L,(s.e.c++L).take 5=s.e.c:=λL=>VP hce;have hcs:s.c=st (B s.nm)::(s.e.c++[V s.p]):=rfl;have hok:=Ex.okc s.e;have hex:an [s.e]=.slc s.e.c 1:=by simp[an,Ex.cL]
 have hcc:s.e.c.take 5=s.e.c:=by rw[<-hce,VI]
 rw[hex]at h2;refine Qt hm Tryz.func189 d189 (by simp[SV.under,Ql.und]) λZ => ?_;rw[hcs]at *;generalize s.e.c=ec at *;simp -implicitDefEqProofs[m189,r189];refine⟨hok,Qb (h1 _) ?_⟩;simp -implicitDefEqProofs[ht,hok,hce];refine QQ (OkP.give (H.length+1) 1 (o:=⟨ec,25,0,true⟩) (by simp) rfl (OkP.cast (by simp[hcc,hce]) rfl (h2 _))) ?_;rintro out H' ⟨rfl,rfl⟩;simp -implicitDefEqProofs;exact Qq 3 Z rfl (by simp)
theorem QwW {a:Qh} (ha:a.prp):Ok Tryz.prog 156 [.agg a.c] H (.ret (bl true)) H:=by
 have h1:=λH=>Qgt (H:=H) ha.nm;have h2:=λH=>Qjh (H:=H) ha.wh;have h3:=λH=>QA1 (H:=H) (R:=189) ha.len λs hs L=>QC9 (ha.sets s hs);have hw:(a.wh.length:Int)<=1:=by have:=ha.wh1; omega
 have hw':=ha.wh1;refine Qt hm Tryz.func156 c156 (by simp[SV.under,Qh.und]) λZ => ?_;simp -implicitDefEqProofs[i156,r156,Qh.c];refine⟨rfl,Qb (h1 _) ?_⟩;simp -implicitDefEqProofs[an,hw,hw'];refine QL (r:=bl true) (λ_=>by simpa[SV.strip,an]using h2 _) ?_;simp -implicitDefEqProofs[hw,hw'];refine QL (r:=bl true) (λ_=>by simpa[SV.strip]using h3 _) ?_;by_cases hg:a.go=[]
 . simp -implicitDefEqProofs[hg,hw,hw'];refine Qcf _ _ _ _ ?_;simp -implicitDefEqProofs;exact Qq 3 Z rfl (by simp)
 . have h4:=λH=>Qgt (H:=H) (ha.go.resolve_left hg);have hgB:¬ B a.go=B []:=λh=>hg (Qky.1 h);simp -implicitDefEqProofs[hg,hgB,hw,hw'];refine QL (r:=bl true) (λ_=>h4 _) ?_;simp -implicitDefEqProofs;exact Qq 3 Z rfl (by simp)
theorem QEG {x:Qc} (hx:x.dl):Ok Tryz.prog 154 [.agg x.c] H (.ret (bl true)) H:=by
 have h1:=λH=>Qgt (H:=H) hx.nm;have h2:=λH=>Qnn (H:=H) hx.lo.1 hx.lo.2;have h3:=λH=>Qnn (H:=H) hx.hi.1 hx.hi.2;have h4:=λH=>QxT (H:=H) (R:=185) hx.len λn hn L=>Qnn (hx.seen n hn).1 (hx.seen n hn).2;have h5:=λH=>Qjh (H:=H) hx.wt;have hw:(x.wt.length:Int)<=1:=by have:=hx.wt1; omega
 have hw':=hx.wt1;have hall:=hx.all;refine Qt hm Tryz.func154 c154 (by simp[SV.under,Qc.und]) λZ => ?_;simp -implicitDefEqProofs[i154,r154,Qc.c];refine⟨⟨rfl,rfl,rfl⟩,Qb (h1 _) ?_⟩;simp -implicitDefEqProofs;refine QuV (QiW (h2 _).toP) ?_;rintro out H' ⟨rfl,rfl⟩;simp -implicitDefEqProofs;refine QuV (QiW (h3 _).toP) ?_;rintro out H' ⟨rfl,rfl⟩;simp -implicitDefEqProofs;refine QL (r:=bl true) (λ_=>by simpa[SV.strip]using h4 _) ?_;simp -implicitDefEqProofs[an,hw,hw'];refine QL (r:=bl true) (λ_=>by simpa[SV.strip,an]using h5 _) ?_;generalize x.all=b at hall ⊢
 cases b with
 |false =>
  simp -implicitDefEqProofs[hw,hw'];exact Qq 3 Z rfl (by simp)
 |true =>
  simp -implicitDefEqProofs[hall rfl,hw,hw'];exact Qq 3 Z rfl (by simp)
end
structure Qc.tn (x:Qc):Prop where
 who1:x.who.length=1
 who:QbB x.who
 acts0:0<x.acts.length
 acts:∀ a∈x.acts,a.prp
 len:x.acts.length<2147483648
 nm:x.nm=[]
 lo:x.lo=0
 hi:x.hi=0
 wt:x.wt=[]
 all:x.all=false
 seen:x.seen=[]
 pays:x.pays=[]
structure Qc.en (x:Qc):Prop where
 pays0:0<x.pays.length
 pays:QbB x.pays
 nm:x.nm=[]
 lo:x.lo=0
 hi:x.hi=0
 wt:x.wt=[]
 all:x.all=false
 seen:x.seen=[]
 who:x.who=[]
 acts:x.acts=[]
structure Qc.prp (x:Qc):Prop where
 lb:x.lb=[]\/Qcy x.lb
 kd:(x.k=1/\x.dl/\x.who=[]/\x.acts=[]/\x.pays=[])\/(x.k=2/\x.tn)\/(x.k=3/\x.en)
def Qc.at0 (x:Qc):Qc:={ x with p:=0 }
section
variable {H:ZI}
set_option maxRecDepth 8000 in
set_option maxHeartbeats 2000000 in
theorem QnA (x:Qc):Ok Tryz.prog 157 [.agg x.c,.agg x.at0.c] H (.ret (bl true)) H:=by
 refine Qt hm Tryz.func157 c157 (by simp) λZ => ?_;simp -implicitDefEqProofs[i157,r157,Qc.c,Qc.at0];refine⟨⟨rfl,rfl,rfl⟩,?_⟩;simp -implicitDefEqProofs[an];exact Qq 3 Z rfl (by simp)
theorem Qzm {x:Qc} (hlb:x.lb=[]\/Qcy x.lb) {N:Nat} {K:ZH} {U:Env} (h1:U.get 1=rp H.length)
 (hK:∀ U,U.get 1=rp H.length->K .normal U (H++[⟨x.c,78,0,true⟩])):X Tryz.prog N Qf (IC.nth 1 QbW) U (H++[⟨x.c,78,0,true⟩]) K:=by
 rcases hlb with h|h
 . obtain⟨k,lb,nm,lo,hi,wt,all,seen,who,acts,pays,p⟩:=x;simp only at h; subst h;simp -implicitDefEqProofs[IC.nth,QbW,Qc.c,rp,h1];refine Qcf _ _ _ _ ?_;simp -implicitDefEqProofs;exact hK _ (by simp[h1,rp])
 . have h101:=λH=>Qgt (H:=H) h;by_cases h0:x.lb=[]
   . clear h101 h;obtain⟨k,lb,nm,lo,hi,wt,all,seen,who,acts,pays,p⟩:=x;simp only at h0; subst h0;simp -implicitDefEqProofs[IC.nth,QbW,Qc.c,rp,h1];refine Qcf _ _ _ _ ?_;simp -implicitDefEqProofs;exact hK _ (by simp[h1,rp])
   . have h0B:¬ B x.lb=B []:=λh=>h0 (Qky.1 h);simp -implicitDefEqProofs[IC.nth,QbW,Qc.c,rp,h1,h0];refine QL (r:=bl true) (λ_=>h101 _) ?_;simp -implicitDefEqProofs;exact hK _ (by simp[h1,rp])
set_option maxRecDepth 8000 in
set_option maxHeartbeats 4000000 in
theorem QrG {x:Qc} (hk:x.k=3) (he:x.en) {N:Nat} {K:ZH} {U:Env} (h1:U.get 1=rp H.length)
 (hK:∀ U L,U.get 2=bl true->K .ret U (H++L)):X Tryz.prog N Qf (IC.tl 2 QbW) U (H++[⟨x.c,78,0,true⟩]) K:=by
 have h157:=λH=>QnA (H:=H) x;have h72:=λH=>Qjh (H:=H) he.pays;have hp:=he.pays0;obtain⟨_,_,e1,e2,e3,e4,e5,e6,e7,e8⟩:=he;obtain⟨k,lb,nm,lo,hi,wt,all,seen,who,acts,pays,p⟩:=x;simp only at *;subst hk e1 e2 e3 e4 e5 e6 e7 e8;have hp':(0:Int)<pays.length:=by omega
 simp only[Qc.c,Qc.at0]at h157;simp -implicitDefEqProofs[IC.tl,QbW,Qc.c,rp,h1,an,hp];refine QL (r:=bl true) (λ_=>h72 _) ?_;simp -implicitDefEqProofs[rp,h1];refine QL (r:=bl true) (λ_=>(OkP.le ?_ (h157 _).toP).toOk) ?_
 . simp only[an,Ex.cL,QE,rws,List.map,SV.strip,VH];repeat first
    |exact leL.nil
    |refine leL.cons ?_ ?_
    |exact SV.le.refl _
    |exact QdA
    |refine QiK ?_ _
    |refine QeW ?_
 simp -implicitDefEqProofs;exact hK _ _ (by simp)
set_option maxRecDepth 8000 in
set_option maxHeartbeats 4000000 in
theorem QAu {x:Qc} (hk:x.k=1) (hd:x.dl) (e1:x.who=[]) (e2:x.acts=[]) (e3:x.pays=[]) {N:Nat} {K:ZH} {U:Env} (h1:U.get 1=rp H.length)
 (hK:∀ U L,U.get 2=bl true->K .ret U (H++L)):X Tryz.prog N Qf (IC.tl 2 QbW) U (H++[⟨x.c,78,0,true⟩]) K:=by
 have h157:=λH=>QnA (H:=H) x;have h154:=λH=>QEG (H:=H) hd;clear hd;obtain⟨k,lb,nm,lo,hi,wt,all,seen,who,acts,pays,p⟩:=x;simp only at hk e1 e2 e3;subst hk e1 e2 e3;simp only[Qc.c,Qc.at0]at h157 h154;simp -implicitDefEqProofs[IC.tl,QbW,Qc.c,rp,h1,an];refine Qb (h154 _) ?_;simp -implicitDefEqProofs[rp,h1];refine QL (r:=bl true) (λ_=>(OkP.le ?_ (h157 _).toP).toOk) ?_
 . simp only[an,Ex.cL,QE,rws,List.map,SV.strip,VH];repeat first
    |exact leL.nil
    |refine leL.cons ?_ ?_
    |exact SV.le.refl _
    |exact QdA
    |refine QiK ?_ _
    |refine QeW ?_
 simp -implicitDefEqProofs;exact hK _ _ (by simp)
set_option maxRecDepth 8000 in
set_option maxHeartbeats 4000000 in
theorem Qwu {x:Qc} (hk:x.k=2) (he:x.tn) {N:Nat} {K:ZH} {U:Env} (h1:U.get 1=rp H.length)
 (hK:∀ U L,U.get 2=bl true->K .ret U (H++L)):X Tryz.prog N Qf (IC.tl 2 QbW) U (H++[⟨x.c,78,0,true⟩]) K:=by
 have h157:=λH=>QnA (H:=H) x;have h72:=λH=>Qjh (H:=H) he.who;have h155:=λH=>QBZ (H:=H) (R:=156) he.len λa ha L=>QwW (he.acts a ha);have hp:=he.acts0;obtain⟨hw1,_,_,_,_,e1,e2,e3,e4,e5,e6,e7⟩:=he;obtain⟨k,lb,nm,lo,hi,wt,all,seen,who,acts,pays,p⟩:=x;simp only at *;subst hk e1 e2 e3 e4 e5 e6 e7;have hp':(0:Int)<acts.length:=by omega
 have hw1':(who.length:Int)=1:=by omega
 simp only[Qc.c,Qc.at0]at h157;simp -implicitDefEqProofs[IC.tl,QbW,Qc.c,rp,h1,an,hw1];simp only[an,hw1]at h72 h157;refine QL (r:=bl true) (λ_=>h72 _) ?_;simp -implicitDefEqProofs[rp,h1,hp];refine QL (r:=bl true) (λ_=>h155 _) ?_;simp -implicitDefEqProofs[rp,h1];refine QL (r:=bl true) (λ_=>(OkP.le ?_ (h157 _).toP).toOk) ?_
 . simp only[Ex.cL,QE,List.map,SV.strip,VH];repeat first
    |exact leL.nil
    |refine leL.cons ?_ ?_
    |exact SV.le.refl _
    |exact QdA
    |refine QiK ?_ _
    |refine QeW ?_
 simp -implicitDefEqProofs;exact hK _ _ (by simp)
theorem QtK {x:Qc} (hlb:x.lb=[]\/Qcy x.lb) (hT:∀ (K:ZH) (U:Env),U.get 1=rp H.length->(∀ U L,U.get 2=bl true->K .ret U (H++L))->X Tryz.prog Tryz.f104.ntmps Qf (IC.tl 2 QbW) U (H++[⟨x.c,78,0,true⟩]) K):Ok Tryz.prog 104 [.agg x.c] H (.ret (bl true)) H:=by
 refine Qt hm Tryz.func104 c104 (by simp) λZ => ?_;rw[show QbW=.seq (IC.nth 0 QbW) (.seq (IC.nth 1 QbW) (IC.tl 2 QbW))from rfl];generalize ht:IC.tl 2 QbW=t at *;generalize ht1:IC.nth 1 QbW=t1;simp -implicitDefEqProofs[IC.nth,QbW];subst ht1;refine Qzm hlb (by simp[rp]) λU h1 => ?_;refine hT _ U h1 λU L h2 => ?_;simp -implicitDefEqProofs[r104,h2];exact Qq 3 Z rfl (by simp)
theorem QBl {x:Qc} (hx:x.prp):Ok Tryz.prog 104 [.agg x.c] H (.ret (bl true)) H:=QtK hx.lb λK U h1 hK=>by
 rcases hx.kd with ⟨hk,hd,e1,e2,e3⟩|⟨hk,he⟩|⟨hk,he⟩
 . exact QAu hk hd e1 e2 e3 h1 hK
 . exact Qwu hk he h1 hK
 . exact QrG hk he h1 hK
theorem QDY {x:Qc} (hx:x.prp) (hk:x.k=3):Ok Tryz.prog 104 [.agg x.c] H (.ret (bl true)) H:=QtK hx.lb λK U h1 hK=>by
 rcases hx.kd with ⟨hk',_⟩|⟨hk',_⟩|⟨_,he⟩
 . omega
 . omega
 . exact QrG hk he h1 hK
structure Qn.prp (v:Qn):Prop where
 nm:Qcy v.nm
 lo : -1000000000<=v.n
 hi:v.n<=1000000000
structure Qy.prp (r:Qy):Prop where
 nm:Qcy r.nm
 pl:0<=r.pl/\r.pl<=1000000000
 vars:∀ v∈r.vars,v.prp
 vlen:r.vars.length<2147483648
 stages:∀ x∈r.stages,x.prp
 slen:r.stages.length<2147483648
 s0:0<r.stages.length
theorem Qn.len (v:Qn):v.c.length=3:=rfl
theorem QxY {r:Qy} (hr:r.prp) {N:Nat} {K:ZH} (ai:∀ U G,U.get 1=rp H.length->K (.exit 0) U (H++(⟨r.c,36,0,true⟩::G))) :
 ∀ (m i:Nat) (G:ZI) (U:Env),i+m=r.vars.length->U.get 1=rp H.length->U.get 22=.slc (rws Qn.c r.vars) r.vars.length->U.get 23=V r.vars.length->U.get 24=V i ->
  LI Tryz.prog N Qf Ql4 U (H++(⟨r.c,36,0,true⟩::G)) K:=by
 have hlen:=QaF Qn.len r.vars;have hb:=hr.vlen;intro m
 induction m with
 |zero =>
  intro i G U hi h1 h22 h23 h24;refine Qp hm Ql4.eq_1 ?_;have e:i=r.vars.length:=by omega
  subst e;simp -implicitDefEqProofs[h1,h22,h23,h24];exact ai _ _ (by simp)
 |succ m ih =>
  intro i G U hi h1 h22 h23 h24;refine Qp hm Ql4.eq_1 ?_;have hlt:i<r.vars.length:=by omega
  have ax:(i:Int)<r.vars.length:=by omega
  have hg:=QfC (c:=Qn.c) Qn.len hlt;have hv:=hr.vars _ (Vp hlt);generalize r.vars[i]=v at hg hv;have h101:=λH=>Qgt (H:=H) hv.nm;have h102:=λH=>Qnu (H:=H) hv.lo hv.hi;simp -implicitDefEqProofs[h1,h22,h23,h24,rp,Qn.c,ax,hg,hlen];refine⟨by omega,Qb (h101 _) ?_⟩;simp -implicitDefEqProofs[h1,h22,h23,h24,rp];refine QL (r:=bl true) (λ_=>h102 _) ?_;simp -implicitDefEqProofs[h1,h22,h23,h24,rp];refine LI.cong (H':=H++(⟨r.c,36,0,true⟩::(G++[⟨v.c,75,0,true⟩]))) (by simp[Qn.c]) (ih (i+1) _ _ (by omega) ?_ ?_ ?_ ?_);all_goals simp[rp,Qaj (show i<9223372036854775807 by omega)]
theorem QqX {r:Qy} (hr:r.prp) (hg:∀ x∈r.stages,∀ H,Ok Tryz.prog 104 [.agg x.c] H (.ret (bl true)) H):Ok Tryz.prog 49 [.agg r.c] H (.ret (bl true)) H:=by
 have h101:=λH=>Qgt (H:=H) hr.nm;have h102:=λH=>Qnu (H:=H) hr.pl.1 hr.pl.2;have h103:=λH=>QCA (H:=H) (R:=104) hr.slen λx hx L=>hg x hx _;have h0:=hr.s0;have h0':¬ r.stages.length=0:=by omega
 have h0'':¬ (r.stages.length:Int)=0:=by omega
 have hne:¬ r.stages=[]:=λh=>by rw[h]at h0; simp at h0
 refine Qt hm Tryz.func49 c49 (by simp) λZ => ?_;simp -implicitDefEqProofs[i49,r49,Qy.c];refine Qb (h101 _) ?_;simp -implicitDefEqProofs;refine QL (r:=bl true) (λ_=>h102 _) ?_;simp -implicitDefEqProofs[h0'];refine LI.cong (H':=H++(⟨r.c,36,0,true⟩::[])) (by simp[Qy.c]) ?_;refine QxY hr (λU G h1 => ?_) r.vars.length 0 [] _ (by omega) (by simp[rp]) (by simp) (by simp) (by simp);simp -implicitDefEqProofs[h1,rp,Qy.c];refine Qb (h103 _) ?_;simp -implicitDefEqProofs;exact Qq 3 Z rfl (by simp)
theorem ok49 {r:Qy} (hr:r.prp):Ok Tryz.prog 49 [.agg r.c] H (.ret (bl true)) H:=QqX hr λx hx _=>QBl (hr.stages x hx)
end
def fW {α:Type} (f:α->ZG->ZG):List α->ZG->ZG
 |[],o=>o
 |x::r,o=>fW f r (f x o)
theorem Qcd {α:Type} {f:α->ZG->ZG} (h:∀ x,Qaw (f x)):∀ l,Qaw (fW f l)
 |[],o=>Vb _
 |x::r,o=>Vf (h x o) (Qcd h r (f x o))
def Qd3 (e:Ex) (o:ZG):ZG:=az e (o++[32,119,104,101,110,32])
theorem QnT (e:Ex):Qaw (Qd3 e):=λo=>by
 have:=Qc6 e (o++[32,119,104,101,110,32]);unfold Qd3; simp at this; omega
def Qew (s:Ql) (o:ZG):ZG:=az s.e (o++([32]++s.nm++[32,61,32]))++[59]
theorem Qnj (s:Ql):Qaw (Qew s):=λo=>by
 have:=Qc6 s.e (o++([32]++s.nm++[32,61,32]));unfold Qew; simp at this ⊢; omega
def Qf3 (b:Bool) (o:ZG):ZG:=if b=true then o++[32,104,105,100,100,101,110]else o
def goW (g:ZG) (o:ZG):ZG:=if g=[]then o else o++([32,103,111,116,111,32]++g++[59])
def QdJ (a:Qh) (o:ZG):ZG :=
 goW a.go (fW Qew a.sets (Qf3 a.hid (fW Qd3 a.wh (o++([32,32,97,99,116,105,111,110,32]++a.nm)))++[32,123])++[32,125])++[10]
theorem Qpu (b:Bool):Qaw (Qf3 b):=λo=>by unfold Qf3; split<;>simp
theorem Qpd (g:ZG):Qaw (goW g):=λo=>by unfold goW; split<;>simp
theorem Ex.v_c (e:Ex):e.v=.agg e.c:=by cases e; rfl
theorem Ex.take5 (e:Ex):e.c.take 5=e.c:=by rw[<-Ex.c_len e,VI]
section
variable {H:ZI} {j q v0:Nat} {o0:ZG}
theorem Qz3 (hp:PrA H j q o0 v0) {a:Qh} (hn:a.wh.length<=100) (hE:∀ e∈a.wh,PrK 73 [e.v] (az e)) {res:ZG} (hL:res.length<=140737488355328) {N:Nat} {K:ZH}
 (ai:∀ U v G,U.get 0=rp j->U.get 3=rp H.length->K (.exit 0) U (wr H j q res v++(⟨a.c,89,0,true⟩::G))) :
 ∀ (m i:Nat) (o:ZG) (v:Nat) (G:ZI) (U:Env),i+m=a.wh.length->fW Qd3 (a.wh.drop i) o=res->U.get 0=rp j->U.get 3=rp H.length->U.get 14=an a.wh->U.get 15=V a.wh.length->U.get 16=V i ->
  LI Tryz.prog N Qf Qk1 U (wr H j q o v++(⟨a.c,89,0,true⟩::G)) K:=by
 intro m
 induction m with
 |zero =>
  intro i o v G U hi hr h0 h3 h14 h15 h16;refine Qp hm Qk1.eq_1 ?_;have e:i=a.wh.length:=by omega
  subst e;rw[V7,fW]at hr;subst hr;simp[h0,h3,h14,h15,h16,an];exact ai _ _ _ (by simp) (by simp)
 |succ m ih =>
  intro i o v G U hi hr h0 h3 h14 h15 h16;refine Qp hm Qk1.eq_1 ?_;have hlt:i<a.wh.length:=by omega
  have ax:(i:Int)<a.wh.length:=by omega
  have hg:=QeC hlt;have hlen:=Qeo a.wh;have he:=hE a.wh[i] (Vp hlt);rw[VN hlt,fW]at hr;have hgr:=Qcd QnT (a.wh.drop (i+1)) (Qd3 a.wh[i] o);rw[hr]at hgr;have ih:=ih (i+1);generalize a.wh[i]=e at hg he hr hgr;have hgw:=Qc6 e (o++[32,119,104,101,110,32]);have hwd:Qd3 e o=az e (o++[32,119,104,101,110,32]):=rfl;rw[hwd]at hr hgr;have he':=λo v L h=>he.at hp o v L h;have hc5:=Ex.c_len e;have hcc:=Ex.take5 e;have hok:=Ex.okc e;simp only[Ex.v_c]at he';rw[Vj]at hgw;simp at hgw;simp[h0,h3,h14,h15,h16,an,ax,hg,hlen,hc5];refine⟨by omega,Qb (Qae hp o v (l:=[[32,119,104,101,110,32]]) (T:=9) (by simp; rfl) rfl (by simp) (by simp; omega)) ?_⟩;simp[h0,h3,h14,h15,h16,an,hc5,hcc];refine QQ (he' (o++[32,119,104,101,110,32]) _ _ (by omega)) ?_;rintro out H' ⟨rfl,v',rfl⟩;simp[h0,h3,h14,h15,h16,an];refine ih _ v' _ _ (by omega) hr ?_ ?_ ?_ ?_ ?_;all_goals simp[an,Qaj (show i<9223372036854775807 by omega)]
theorem QCo (hp:PrA H j q o0 v0) {a:Qh} (hn:a.sets.length<2147483648) (hE:∀ x∈a.sets,PrK 73 [x.e.v] (az x.e)) {res:ZG} (hL:res.length<=140737488355328) {N:Nat} {K:ZH}
 (ai:∀ U v G,U.get 0=rp j->U.get 3=rp H.length->K (.exit 2) U (wr H j q res v++(⟨a.c,89,0,true⟩::G))) :
 ∀ (m i:Nat) (o:ZG) (v:Nat) (G:ZI) (U:Env),i+m=a.sets.length->fW Qew (a.sets.drop i) o=res->U.get 0=rp j->U.get 3=rp H.length->U.get 36=.slc (rws Ql.c a.sets) a.sets.length->U.get 37=V a.sets.length->U.get 38=V i ->
  LI Tryz.prog N Qf Qml U (wr H j q o v++(⟨a.c,89,0,true⟩::G)) K:=by
 have hlen:=QaF Ql.len a.sets;intro m
 induction m with
 |zero =>
  intro i o v G U hi hr h0 h3 h14 h15 h16;refine Qp hm Qml.eq_1 ?_;have e:i=a.sets.length:=by omega
  subst e;rw[V7,fW]at hr;subst hr;simp[h0,h3,h14,h15,h16];exact ai _ _ _ (by simp) (by simp)
 |succ m ih =>
  intro i o v G U hi hr h0 h3 h14 h15 h16;refine Qp hm Qml.eq_1 ?_;have hlt:i<a.sets.length:=by omega
  have ax:(i:Int)<a.sets.length:=by omega
  have hg:=QfC (c:=Ql.c) Ql.len hlt;have he:=hE a.sets[i] (Vp hlt);rw[VN hlt,fW]at hr;have hgr:=Qcd Qnj (a.sets.drop (i+1)) (Qew a.sets[i] o);rw[hr]at hgr;have ih:=ih (i+1);generalize a.sets[i]=x at hg he hr hgr;have hgw:=Qc6 x.e (o++([32]++x.nm++[32,61,32]));have hwd:Qew x o=az x.e (o++([32]++x.nm++[32,61,32]))++[59]:=rfl;rw[hwd]at hr hgr;have he':=λo v L h=>he.at hp o v L h;have hc5:=Ex.c_len x.e;have ht:∀ L,(x.e.c++L).take 5=x.e.c:=λL=>VP hc5;have hok:=Ex.okc x.e;have hxc:x.c=st (B x.nm)::(x.e.c++[V x.p]):=rfl;have hxl:=Ql.len x;have hxo:=Ql.ok x;simp only[Ex.v_c]at he';rw[Vj]at hgw hgr;simp at hgw hgr;rw[hxc]at hg hxl hxo;generalize x.e.c=ec at *;simp[h0,h3,h14,h15,h16,ax,hg,hlen,hc5];refine⟨by omega,hok,Qb (Qae hp o v (l:=[[32],x.nm,[32,61,32]]) (T:=9) (by simp; rfl) rfl (by simp) (by simp; omega)) ?_⟩;simp[h0,h3,h14,h15,h16,hc5,ht];refine QQ (he' (o++([32]++x.nm++[32,61,32])) _ _ (by simp; omega)) ?_;rintro out H' ⟨rfl,v',rfl⟩;simp[h0,h3,h14,h15,h16];refine Qb (Qae hp _ v' (l:=[[59]]) (T:=9) (by simp; rfl) rfl (by simp) (by simp; omega)) ?_;simp[h0,h3,h14,h15,h16];refine ih _ (v'+1) _ _ (by omega) (by simpa using hr) ?_ ?_ ?_ ?_ ?_;all_goals simp[Qaj (show i<9223372036854775807 by omega)]
def PcW (H:ZI) (j q N:Nat) (b:AO) (p:IC) (F:ZG->ZG):Prop :=
 ∀ (K:ZH) (o:ZG) (v:Nat) (G:ZI) (U:Env),U.get 0=rp j->U.get 3=rp H.length->(F o).length<=140737488355328 ->
  (∀ U v' G',U.get 0=rp j->U.get 3=rp H.length->K .normal U (wr H j q (F o) v'++(b::G')))->X Tryz.prog N Qf p U (wr H j q o v++(b::G)) K
theorem PcW.seq {N:Nat} {b:AO} {p r:IC} {F G:ZG->ZG} (h1:PcW H j q N b p F) (h2:PcW H j q N b r G) (hG:Qaw G):PcW H j q N b (.seq p r) λo=>G (F o):=by
 intro K o v L U h0 h3 hL hK;simp only[Qsf];refine h1 _ o v L U h0 h3 (Vf (hG _) hL) λU v' G' h0 h3 => ?_;exact h2 _ _ _ _ _ h0 h3 hL hK
variable {N:Nat}
theorem QDW (hp:PrA H j q o0 v0) (a:Qh):PcW H j q N ⟨a.c,89,0,true⟩ (IC.nth 1 Qah) λo=>o++([32,32,97,99,116,105,111,110,32]++a.nm):=by
 intro K o v L U h0 h3 hL hK;simp at hL;simp[IC.nth,Qah,Qh.c,rp,h0,h3];refine Qb (Qae hp o v (l:=[[32,32,97,99,116,105,111,110,32],a.nm]) (T:=9) (by simp; rfl) rfl (by simp) (by simp; omega)) ?_;simp;exact hK _ _ _ (by simp[h0,rp]) (by simp[h3,rp])
theorem Qx8 (hp:PrA H j q o0 v0) {a:Qh} (hn:a.wh.length<=100) (hE:∀ e∈a.wh,PrK 73 [e.v] (az e)):PcW H j q N ⟨a.c,89,0,true⟩ (IC.nth 2 Qah) (fW Qd3 a.wh):=by
 intro K o v L U h0 h3 hL hK;simp[IC.nth,Qah,Qh.c,rp,h3,an];refine LI.cong (H':=wr H j q o v++(⟨a.c,89,0,true⟩::L)) rfl ?_;refine Qz3 hp hn hE hL (λU v G h0 h3 => ?_) a.wh.length 0 o v L _ (by omega) (by simp) (by simp[h0,rp]) (by simp[h3,rp]) (by simp[an]) (by simp) (by simp);simp;exact hK _ _ _ (by simp[h0,rp]) (by simp[h3,rp])
theorem Qv2 (hp:PrA H j q o0 v0) (a:Qh):PcW H j q N ⟨a.c,89,0,true⟩ (IC.nth 3 Qah) (Qf3 a.hid):=by
 intro K o v L U h0 h3 hL hK;have hF:Qf3 a.hid o=if a.hid=true then o++[32,104,105,100,100,101,110]else o:=rfl;by_cases h:a.hid=true
 . rw[Zr h]at hF;rw[hF]at hL hK;simp at hL;have hac:a.c=[st (B a.nm),an a.wh,bl true,.slc (rws Ql.c a.sets) a.sets.length,st (B a.go),V a.p]:=by simp[Qh.c,h]
   rw[hac]at hK ⊢;simp[IC.nth,Qah,rp,h0,h3];refine Qb (Qae hp o v (l:=[[32,104,105,100,100,101,110]]) (T:=9) (by simp; rfl) rfl (by simp) (by simp; omega)) ?_;simp;exact hK _ _ _ (by simp[h0,rp]) (by simp[h3,rp])
 . rw[Zq h]at hF;rw[hF]at hL hK;rw[Vm]at h;have hac:a.c=[st (B a.nm),an a.wh,bl false,.slc (rws Ql.c a.sets) a.sets.length,st (B a.go),V a.p]:=by simp[Qh.c,h]
   rw[hac]at hK ⊢;simp[IC.nth,Qah,rp,h3];exact hK _ _ _ (by simp[h0,rp]) (by simp[h3,rp])
theorem QzA (hp:PrA H j q o0 v0) (a:Qh):PcW H j q N ⟨a.c,89,0,true⟩ (IC.nth 4 Qah) λo=>o++[32,123]:=by
 intro K o v L U h0 h3 hL hK;simp at hL;simp[IC.nth,Qah,Qh.c,rp,h0];refine Qb (Qae hp o v (l:=[[32,123]]) (T:=9) (by simp; rfl) rfl (by simp) (by simp; omega)) ?_;simp;exact hK _ _ _ (by simp[h0,rp]) (by simp[h3,rp])
theorem QDk (hp:PrA H j q o0 v0) {a:Qh} (hn:a.sets.length<2147483648) (hE:∀ x∈a.sets,PrK 73 [x.e.v] (az x.e)):PcW H j q N ⟨a.c,89,0,true⟩ (IC.nth 5 Qah) (fW Qew a.sets):=by
 intro K o v L U h0 h3 hL hK;simp[IC.nth,Qah,Qh.c,rp,h3];refine LI.cong (H':=wr H j q o v++(⟨a.c,89,0,true⟩::L)) rfl ?_;refine QCo hp hn hE hL (λU v G h0 h3 => ?_) a.sets.length 0 o v L _ (by omega) (by simp) (by simp[h0,rp]) (by simp[h3,rp]) (by simp) (by simp) (by simp);simp;exact hK _ _ _ (by simp[h0,rp]) (by simp[h3,rp])
theorem QzK (hp:PrA H j q o0 v0) (a:Qh):PcW H j q N ⟨a.c,89,0,true⟩ (IC.nth 6 Qah) λo=>o++[32,125]:=by
 intro K o v L U h0 h3 hL hK;simp at hL;simp[IC.nth,Qah,Qh.c,rp,h0];refine Qb (Qae hp o v (l:=[[32,125]]) (T:=9) (by simp; rfl) rfl (by simp) (by simp; omega)) ?_;simp;exact hK _ _ _ (by simp[h0,rp]) (by simp[h3,rp])
theorem QD2 (hp:PrA H j q o0 v0) (a:Qh):PcW H j q N ⟨a.c,89,0,true⟩ (IC.nth 7 Qah) (goW a.go):=by
 intro K o v L U h0 h3 hL hK;have hF:goW a.go o=if a.go=[]then o else o++([32,103,111,116,111,32]++a.go++[59]):=rfl;by_cases h:a.go=[]
 . rw[Zr h]at hF;rw[hF]at hL hK;have hac:a.c=[st (B a.nm),an a.wh,bl a.hid,.slc (rws Ql.c a.sets) a.sets.length,st (B []),V a.p]:=by simp[Qh.c,h]
   rw[hac]at hK ⊢;simp[IC.nth,Qah,rp,h3];exact hK _ _ _ (by simp[h0,rp]) (by simp[h3,rp])
 . rw[Zq h]at hF;rw[hF]at hL hK;simp at hL;have hB:¬ B a.go=B []:=λh'=>h (Qky.1 h');simp[IC.nth,Qah,Qh.c,rp,h0,h3,h];refine Qb (Qae hp o v (l:=[[32,103,111,116,111,32],a.go,[59]]) (T:=9) (by simp; rfl) rfl (by simp) (by simp; omega)) ?_;simp;exact hK _ _ _ (by simp[h0,rp]) (by simp[h3,rp])
theorem QxO (hp:PrA H j q o0 v0) (a:Qh):PcW H j q N ⟨a.c,89,0,true⟩ (IC.tl 8 Qah) λo=>o++[10]:=by
 intro K o v L U h0 h3 hL hK;simp at hL;simp[IC.tl,Qah,Qh.c,rp,h0];refine Qb (Qae hp o v (l:=[[10]]) (T:=9) (by simp; rfl) rfl (by simp) (by simp; omega)) ?_;simp;exact hK _ _ _ (by simp[h0,rp]) (by simp[h3,rp])
theorem Qcr (l:ZG):Qaw λo=>o++l:=λo=>by simp
structure PG (H:ZI) (j q N:Nat) (b:AO) (p:IC) (F:ZG->ZG):Prop where
 pc:PcW H j q N b p F
 gr:Qaw F
theorem PG.seq {N:Nat} {b:AO} {p r:IC} {F G:ZG->ZG} (h1:PG H j q N b p F) (h2:PG H j q N b r G):PG H j q N b (.seq p r) λo=>G (F o) :=
 ⟨h1.pc.seq h2.pc h2.gr,λo=>Vf (h1.gr o) (h2.gr _)⟩
theorem Qx7 {a:Qh} (hn:a.wh.length<=100) (hs:a.sets.length<2147483648) (hE:∀ e∈a.wh,PrK 73 [e.v] (az e)) (hS:∀ x∈a.sets,PrK 73 [x.e.v] (az x.e)):PrK 108 [.agg a.c] (QdJ a):=by
 intro H j q o v hp hL;have hj:=hp.lj;refine QaY hm Tryz.func108 c108 (by simp[rp]) λZ => ?_;have h:=(PG.mk (QDW (N:=Tryz.f108.ntmps) hp a) (Qcr _)).seq ((PG.mk (Qx8 hp hn hE) (Qcd QnT _)).seq ((PG.mk (Qv2 hp a) (Qpu _)).seq ((PG.mk (QzA hp a) (Qcr _)).seq
  ((PG.mk (QDk hp hs hS) (Qcd Qnj _)).seq ((PG.mk (QzK hp a) (Qcr _)).seq ((PG.mk (QD2 hp a) (Qpd _)).seq ⟨QxO hp a,Qcr _⟩))))))
 rw[show Qah=.seq (IC.nth 0 Qah) (.seq (IC.nth 1 Qah) (.seq (IC.nth 2 Qah) (.seq (IC.nth 3 Qah) (.seq (IC.nth 4 Qah) (.seq (IC.nth 5 Qah) (.seq (IC.nth 6 Qah) (.seq (IC.nth 7 Qah) (IC.tl 8 Qah))))))))from rfl];generalize (IC.seq (IC.nth 1 Qah) (.seq (IC.nth 2 Qah) (.seq (IC.nth 3 Qah) (.seq (IC.nth 4 Qah) (.seq (IC.nth 5 Qah) (.seq (IC.nth 6 Qah) (.seq (IC.nth 7 Qah) (IC.tl 8 Qah))))))))=t at h;simp[IC.nth,Qah];refine h.pc _ o v [] _ (by simp[rp]) (by simp[rp]) hL λU v' G h0 h3 => ?_;simp[r108];exact Qdf hp Z (by simp) _ rfl
end
end Go.Proofs.YtmkdpmfhlfhjkaaGreatDoor
