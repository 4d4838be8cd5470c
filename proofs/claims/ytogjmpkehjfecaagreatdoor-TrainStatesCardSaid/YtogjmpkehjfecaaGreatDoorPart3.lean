/- Steps of the proof. -/
import Derived.Test.YtogjmpkehjfecaaGreatDoorPart2
set_option linter.all false
namespace Go.Proofs.YtogjmpkehjfecaaGreatDoor.Rc
open Go.Ab Go.Ab.Lm
section
variable {H:Ws}
theorem Qi1 {n:Nat} (hn:n<B):Ok Tryz.prog 129 [.val (.int .u32 (n:Nat))] H (.ret (nS n)) H:=by
 refine Ql hm' Tryz.func129 c129 (by simp[SV.under]) λhcl => ?_;have ht:=Qev (l:=[n]) (λz hz=>by simp at hz; rw[hz]; exact hn);have hv:val [n]=n:=by simp[val]
 rw[hv]at ht;simp -implicitDefEqProofs[i129,r129];refine⟨⟨rfl,rfl,rfl⟩,rfl,?_⟩;have h69:=Qln (X:=H++[⟨us [n],114,0,true⟩]) (l:=[n]) (k:=H.length) (v:=0) (by simp) (by simp);simp only[us,u32,Vn,VF,VL,YQ,V0]at h69;refine QbL h69 ?_;rintro o' G' ⟨rfl,hG⟩;rw[hG];simp -implicitDefEqProofs;have hf:=Qm1 (n:=H.length) (L:=[⟨us [n],114,0,true⟩]) (z:=[n]) (k:=0) (d:=0) (v:=0) (by simp);rw[ht,Yc]at hf;rw[ht];exact Qi 2 hcl rfl hf
set_option maxRecDepth 10000 in
theorem QsN {z:List Nat} (hz:z.length<1000000) {N:Nat} {K:Wr}
 (hexit:∀ env G,env.get 3=.own H.length 0 z.length 1 z.length->K (.exit 0) env (H++⟨us z,114,z.length,true⟩::G)) :
 ∀ (m:Nat) (n:Int) (p:List Nat) (env:Env) (G:Ws),p.length+m=z.length -> -9223372036854775808<=n/\n<=9223372036854775807->p++lim n.natAbs=z->env.get 0=i64 n->env.get 3=.own H.length 0 p.length 1 p.length ->
  LI Tryz.prog N Qb Qi6 env (H++⟨us p,114,p.length,true⟩::G) K:=by
 have hB:B=1000000000:=rfl;intro m
 induction m with
 |zero =>
  intro n p env G hm hn hp h0 h3;refine Qc hm' Qi6.eq_1 ?_;have hl:=Wn List.length hp;simp only[VG]at hl;have h1:lim n.natAbs=[]:=Vx (by omega);have h2:=Qdw.1 h1;have h3':n=0:=by omega
  subst h3';rw[h1,Vr]at hp;subst hp;simp -implicitDefEqProofs[h0,h3];exact hexit _ G (by simp[h3])
 |succ m ih =>
  intro n p env G hm hn hp h0 h3;refine Qc hm' Qi6.eq_1 ?_;have hl:=Wn List.length hp;simp only[VG]at hl;have hne:n.natAbs≠0:=by
   intro e;rw[e,QaZ]at hl;simp at hl;omega
  have hn0:¬ n=0:=by omega
  rw[Qcx hne]at hp;obtain⟨q,hq⟩:∃ q,q=n.tdiv 1000000000:=⟨_,rfl⟩;obtain⟨d,hd⟩:∃ d,d=n.tmod 1000000000:=⟨_,rfl⟩;have hqa:q.natAbs=n.natAbs / B:=by rw[hq,hB]; exact Int.natAbs_tdiv n 1000000000
  have hda:d.natAbs=n.natAbs % B:=by rw[hd,hB]; exact Int.natAbs_tmod n 1000000000
  have hdb:d.natAbs<B:=by rw[hda]; exact Yo _ Qd2
  have hqb:q.natAbs<=n.natAbs:=by rw[hqa]; exact YS _ _
  have hq2:q.natAbs<=9223372036854775808 / 1000000000:=by rw[hqa,hB]; omega
  have wq:IntKind.i64.wrap q=q:=Qp (by omega) (by omega);have wn:IntKind.i64.wrap (-d) = -d:=Qp (by omega) (by omega);obtain⟨r,hr⟩:∃ r,r=d.natAbs:=⟨_,rfl⟩;have hmx:max d (-d)=(r:Int):=by omega
  have wr:=Qcl (n:=r) (by omega);have e:us p++[.val (.int .u32 (r:Int))]=us (p++[r]):=by simp[us,u32]
  have hih:=ih q (p++[r]);have hpl:(p++[r]).length=p.length+1:=by simp
  rw[hpl,<- e]at hih;simp -implicitDefEqProofs[h0,h3,hn0,<- hq,<- hd,wq,wn,hmx,wr,Qab];refine⟨⟨rfl,rfl,rfl⟩,rfl,?_⟩;repeat (refine⟨by omega,?_⟩)
  refine hih _ _ (by omega) (by omega) ?_ ?_ ?_
  . rw[hqa,VQ,ZC,hr,hda];exact hp
  . simp
  . simp
theorem ok71 (n:Int) (hn : -9223372036854775808<=n/\n<=9223372036854775807):Ok Tryz.prog 71 [i64 n] H (.ret (nS n.natAbs)) H:=by
 refine Ql hm' Tryz.func71 c71 (by simp) λhcl => ?_;have hz:(lim n.natAbs).length<=3:=Qcr (by
  have:B ^ 3=1000000000000000000000000000:=by decide
  omega)
 simp -implicitDefEqProofs[i71,r71];refine QsN (H:=H) (z:=lim n.natAbs) (by omega) (λenv G h3 => ?_) (lim n.natAbs).length n [] _ [] (by simp) hn (by simp) (by simp) (by simp);simp -implicitDefEqProofs[h3];refine Qi 2 hcl rfl ?_;simp[nS,Qab,Qd9,QbW];exact VA (by rw[Qab]; omega)
end
end Go.Proofs.YtogjmpkehjfecaaGreatDoor.Rc
namespace Go.Ab.Lm
theorem QfP:∀ (k n:Nat),(lim n).drop k=lim (n / B ^ k)
 |0,n=>by simp
 |k+1,n=>by
  by_cases h:n=0
  . subst h; rw[QaZ]; simp[QaZ]
  . rw[Qcx h,Zl,QfP k,Y6,V3,VB B]
theorem Qfw {n k:Nat} (h:k<(lim n).length):(lim n)[k]=n / B ^ k % B:=by
 have h1:=QfP k n;rw[Vy h]at h1;have h2:n / B ^ k≠0:=by
  intro e;rw[e,QaZ]at h1
  cases h1
 rw[Qcx h2]at h1;exact(List.cons.inj h1).1
theorem QnK {n:Nat} (h:n≠0) (hk:(lim n).length-1<(lim n).length):(lim n)[(lim n).length-1]=n / B ^ ((lim n).length-1)/\0<n / B ^ ((lim n).length-1)/\n / B ^ ((lim n).length-1)<B:=by
 have h1:=QkS h;have h2:=Qde n;have h3:0<n / B ^ ((lim n).length-1):=Nat.div_pos h1 (QgD _);have h4:n / B ^ ((lim n).length-1)<B:=by
  apply Y7;rw[<-V3,show((lim n).length-1).succ=(lim n).length by omega];exact h2
 refine⟨?_,h3,h4⟩;rw[Qfw hk,YP h4]
theorem Qu9 {x n:Nat} (hx:x<B):QF (x::lim n)=lim (x+B*n):=by
 have h:=Qev (l:=x::lim n) (λy hy=>by
  rcases Vi.1 hy with rfl|hy
  . exact hx
  . exact Qbn n y hy)
 rw[h,val,Qcy]
theorem QuR {R b P:Nat} (hP:0<P) (ht:0<b / P):R / b<=R / P / (b / P):=by
 rw[Y6];apply Nat.div_le_div_left
 . exact Nat.mul_div_le b P
 . exact Nat.mul_pos hP ht
theorem QqA {A b x:Nat} (hb:0<b) (hA:A=x+B*(A / B)):A / b=(x+B*(A / B % b)) / b+B*(A / B / b)/\A % b=(x+B*(A / B % b)) % b:=by
 have h1:=Zo (A / B) b;generalize A / B=Q at *;have h2:A=(x+B*(Q % b))+b*(B*(Q / b)):=by
  rw[hA];conv=>lhs; rw[<-h1]
  rw[Ys,Nat.mul_left_comm];omega
 rw[h2];exact⟨Nat.add_mul_div_left _ _ hb,Nat.add_mul_mod_self_left _ _ _⟩
end Go.Ab.Lm
namespace Go.Proofs.YtogjmpkehjfecaaGreatDoor.Rc
open Go.Ab Go.Ab.Shr
theorem oc0 {G:Ws} {p:Nat} {c:Wt} {T:Ww} {v:Nat} (h:G[p]? = some ⟨c,T,v,true⟩):Qf G p v=c:=Qak (o:=⟨c,T,v,true⟩) h rfl
theorem Qd6 {V:List Int} {n ch i q:Nat} (hV:V.length=4*n) (hc:ch<n) (hi:i<n) (hq:q<4) (hne:i≠ch) (f:Nat->Int):(Qy V ch f).getD (i*4+q) 0=V.getD (i*4+q) 0:=by
 simp only[Vp,Qy];congr 1;by_cases hlt:i<ch
 . rw[Ve (by simp; omega),YV (by omega)]
 . rw[Vh (by simp; omega),Vh (by simp; omega),Vs];congr 1;simp; omega
theorem Qkj {V:List Int} {n ch q:Nat} (hV:V.length=4*n) (hc:ch<n) (hq:q<4) (f:Nat->Int):(Qy V ch f).getD (ch*4+q) 0=f q:=by
 simp only[Vp,Qy];rw[Vh (by simp; omega),Ve (by simp; omega)];have:ch*4+q-(List.take (ch*4) V).length=q:=by simp; omega
 rw[this,Vb (by simpa using hq),Qa2 hq]; rfl
theorem Qil {V:List Int} {n ch q:Nat} (hV:V.length=4*n) (hc:ch<n) (hq:q<4) (f:Nat->Int) (y:Int):(Qy V ch f).set (ch*4+q) y=Qy V ch (put f q y):=by
 unfold Qy;have e:ch*4+q-(List.take (ch*4) V).length=q:=by simp; omega
 rw[Yr _ _ (by simp; omega),e,Yj _ _ (by simp; omega),Qco]
theorem Qoy {q:Nat} {a b:Nat->Int} (h:a q=b q):Qt q a b=Qt (q+1) a b:=by
 rw[<-Qdg];funext x;unfold put;split
 . rename_i e; subst e; rw[Qfk,h]
 . rfl
def Qdv (g:Gm) (i q:Nat):Bool:=match g.ns[i]? with
 |none=>false
 |some x=>decide (x.k=2/\x.p=q)
def QD (V:List Int) (i q:Nat):Int:=V.getD (i*4+q) 0
def qoF (a part whole:Int):Int:=IntKind.i64.wrap ((IntKind.i64.wrap (a*part)).tdiv whole)
def QS (g:Gm) (own:Bool) (S:Nat->List Int) (M R:List Int) (i k q:Nat):Int :=
 if Qdv g i q=own then qoF (R.getD (i*4+q) 0) (brP g S i k) (brW g M i)else R.getD (i*4+q) 0
theorem Qog {V:List Int} {n ch i:Nat} (hV:V.length=4*n) (hi:i<n):List.take (ch*4) (Qa V)++(List.take 4 (List.drop (i*4) (Qa V))++List.drop (ch*4+4) (Qa V))=Qa (Qy V ch (QD V i)):=by
 have e:List.take 4 (List.drop (i*4) V)=Qe 4 (QD V i):=by
  apply Vv;intro q;by_cases hq:q<4
  . rw[YV hq,Vs,Vb (by omega),Vb (by simpa using hq),Qa2 hq];simp[QD,show i*4+q<V.length by omega]
  . rw[Vl (by simp; omega),Vl (by simp; omega)]
 simp only[Qy,<- e,Qa,V8,ZP,List.map_drop]
section
variable {g:Gm} {H:Ws} {c:TC}
set_option maxRecDepth 10000 in
theorem Qrm (hW:Wg g) (hc:c.Ok g) {i k ch:Nat} (hi:i<g.ns.length) (hch:ch<g.ns.length) (hne:i≠ch) {s:TS} {R O:List Int} (hR:R.length=4*g.ns.length) (hO:O.length=4*g.ns.length) {x20 x21 x22:SV} {N:Nat} {K:Wr}
 (hexit:∀ env G',TW g H c { s with R:=Qy R ch (Qt g.pl.toNat (QS g false s.S c.M R i k) (QD R i)),O:=Qy O ch (Qt g.pl.toNat (QS g true s.S c.M O i k) (QD O i)) } G' ->
  env.get 0=.ptr (.own (pW H g) 0 0 0 0) 0->env.get 1=i64 i->env.get 4=.ptr (.slc (nds g.ns) g.ns.length) (i*6)->env.get 20=x20->env.get 21=x21->env.get 22=x22->K (.exit 2) env G') :
 ∀ (m q:Nat) (env:Env) (G:Ws),((q+m:Nat):Int)=g.pl ->
  TW g H c { s with R:=Qy R ch (Qt q (QS g false s.S c.M R i k) (QD R i)),O:=Qy O ch (Qt q (QS g true s.S c.M O i k) (QD O i)) } G ->
  env.get 0=.ptr (.own (pW H g) 0 0 0 0) 0->env.get 1=i64 i->env.get 4=.ptr (.slc (nds g.ns) g.ns.length) (i*6)->env.get 6=i64 ch->env.get 7=i64 (brP g s.S i k)->env.get 8=i64 (brW g c.M i)->env.get 20=x20->env.get 21=x21->env.get 22=x22->env.get 64=i64 g.pl->env.get 65=i64 q ->
  LI Tryz.prog N Qb Qjk env G K:=by
 have hp4:=hW.gd.p4;have hn:=hW.gd.n;have hx:g.ns[i]? = some g.ns[i]:=Vb hi;have hwn:=Qnc hc hi;intro m
 induction m with
 |zero =>
  intro q env G hq h h0 h1 h4 h6 h7 h8 h20 h21 h22 h64 h65;refine Qc hm Qjk.eq_1 ?_;have e:q=g.pl.toNat:=by omega
  rw[e]at h;simp -implicitDefEqProofs[h64,h65,show ¬ (q:Int)<g.pl by omega];exact hexit _ _ h (by simp[h0]) (by simp[h1]) (by simp[h4]) (by simp[h20]) (by simp[h21]) (by simp[h22])
 |succ m ih =>
  intro q env G hq h h0 h1 h4 h6 h7 h8 h20 h21 h22 h64 h65;refine Qc hm Qjk.eq_1 ?_;have hq4:q<4:=by omega
  have hqp:(q:Int)<g.pl:=by omega
  have hw:=h.cw0;have w1:=Qw (show q<9223372036854775807 by omega);by_cases hh:Qdv g i q=true
  . have hk:g.ns[i].k=2/\g.ns[i].p=q:=by simpa[Qdv,hx]using hh
    have eR:QS g false s.S c.M R i k q=R.getD (i*4+q) 0:=by simp[QS,hh]
    have eO:QS g true s.S c.M O i k q=qoF (O.getD (i*4+q) 0) (brP g s.S i k) (brW g c.M i):=by simp[QS,hh]
    have eP:=Qdg q (QS g true s.S c.M O i k) (QD O i);rw[Qoy (q:=q) (a:=QS g false s.S c.M R i k) (b:=(QD R i)) eR]at h;have hO2:=oc0 h.o;have hg:=Qd6 hO hch hi hq4 hne (Qt q (QS g true s.S c.M O i k) (QD O i));have hs:=Qil hO hch hq4 (Qt q (QS g true s.S c.M O i k) (QD O i));have hl:=Qbo hO hch (Qt q (QS g true s.S c.M O i k) (QD O i));generalize hF:Qt q (QS g true s.S c.M O i k) (QD O i)=F at *;have hst:=QY h.o;have eI:(Qa (Qy O ch F))[i*4+q]?.getD .any=i64 (O.getD (i*4+q) 0):=by rw[Qbz (by omega),hg]
    have hse:∀ y:Int,List.take (ch*4+q) (Qa (Qy O ch F))++i64 y::List.drop (ch*4+q+1) (Qa (Qy O ch F))=Qa (Qy O ch (put F q y)):=λy=>by rw[Qar (by omega),hs]
    have hF2:=h.setO (X:=Qy O ch (put F q (qoF (O.getD (i*4+q) 0) (brP g s.S i k) (brW g c.M i)))) (Qbo hO hch _);rw[<-eO,eP]at hF2;simp only[qoF]at eO;generalize O.getD (i*4+q) 0=y at *;simp -implicitDefEqProofs[h0,h1,h4,h6,h7,h8,h64,h65,hqp,hw,QA,hi,nd0 hi,nd1 hi,Qam,hk.1,hk.2,hO2,hch,hst,hq4,hl,hwn,eI,hse];repeat (refine⟨by omega,?_⟩)
    rw[<-eO,eP];refine ih (q+1) _ _ (by omega) hF2 ?_ ?_ ?_ ?_ ?_ ?_ ?_ ?_ ?_ ?_ ?_
    . simp
    . simp
    . simp
    . simp
    . simp
    . simp
    . simp[h20]
    . simp[h21]
    . simp[h22]
    . simp
    . simp[w1]
  . have hh':Qdv g i q=false:=by simpa using hh
    have eR:QS g false s.S c.M R i k q=qoF (R.getD (i*4+q) 0) (brP g s.S i k) (brW g c.M i):=by simp[QS,hh']
    have eO:QS g true s.S c.M O i k q=O.getD (i*4+q) 0:=by simp[QS,hh']
    have eP:=Qdg q (QS g false s.S c.M R i k) (QD R i);rw[Qoy (q:=q) (a:=QS g true s.S c.M O i k) (b:=(QD O i)) eO]at h;have hR2:=oc0 h.r;have hg:=Qd6 hR hch hi hq4 hne (Qt q (QS g false s.S c.M R i k) (QD R i));have hs:=Qil hR hch hq4 (Qt q (QS g false s.S c.M R i k) (QD R i));have hl:=Qbo hR hch (Qt q (QS g false s.S c.M R i k) (QD R i));generalize hF:Qt q (QS g false s.S c.M R i k) (QD R i)=F at *;have hst:=QY h.r;have eI:(Qa (Qy R ch F))[i*4+q]?.getD .any=i64 (R.getD (i*4+q) 0):=by rw[Qbz (by omega),hg]
    have hse:∀ y:Int,List.take (ch*4+q) (Qa (Qy R ch F))++i64 y::List.drop (ch*4+q+1) (Qa (Qy R ch F))=Qa (Qy R ch (put F q y)):=λy=>by rw[Qar (by omega),hs]
    have hF2:=h.setR (X:=Qy R ch (put F q (qoF (R.getD (i*4+q) 0) (brP g s.S i k) (brW g c.M i)))) (Qbo hR hch _);rw[<-eR,eP]at hF2;simp only[qoF]at eR;generalize R.getD (i*4+q) 0=y at *;by_cases hk:g.ns[i].k=2
    . have hp:¬ g.ns[i].p=q:=λe=>by simp[Qdv,hx,hk,e]at hh
      simp -implicitDefEqProofs[h0,h1,h4,h6,h7,h8,h64,h65,hqp,hw,QA,hi,nd0 hi,nd1 hi,Qam,hk,hp,hR2,hch,hst,hq4,hl,hwn,eI,hse];repeat (refine⟨by omega,?_⟩)
      rw[<-eR,eP];refine ih (q+1) _ _ (by omega) hF2 ?_ ?_ ?_ ?_ ?_ ?_ ?_ ?_ ?_ ?_ ?_
      . simp
      . simp
      . simp
      . simp
      . simp
      . simp
      . simp[h20]
      . simp[h21]
      . simp[h22]
      . simp
      . simp[w1]
    . simp -implicitDefEqProofs[h0,h1,h4,h6,h7,h8,h64,h65,hqp,hw,QA,hi,nd0 hi,nd1 hi,Qam,hk,hR2,hch,hst,hq4,hl,hwn,eI,hse];repeat (refine⟨by omega,?_⟩)
      rw[<-eR,eP];refine ih (q+1) _ _ (by omega) hF2 ?_ ?_ ?_ ?_ ?_ ?_ ?_ ?_ ?_ ?_ ?_
      . simp
      . simp
      . simp
      . simp
      . simp
      . simp
      . simp[h20]
      . simp[h21]
      . simp[h22]
      . simp
      . simp[w1]
def chR (g:Gm) (own:Bool) (S:Nat->List Int) (M R:List Int) (i k:Nat):List Int:=match g.ns[i]? with
 |none=>R
 |some x=>Qy R (x.nx.getD k 0).toNat (Qt g.pl.toNat (QS g own S M R i k) (QD R i))
def Qax (g:Gm) (own:Bool) (S:Nat->List Int) (M R:List Int) (i:Nat):Nat->List Int
 |0=>R
 |k+1=>chR g own S M (Qax g own S M R i k) i k
theorem Qke {g:Gm} (hW:Wg g) {own:Bool} {S:Nat->List Int} {M R:List Int} {i:Nat} (hi:i<g.ns.length) (hR:R.length=4*g.ns.length):∀ k,k<=g.ns[i].nx.length->(Qax g own S M R i k).length=4*g.ns.length
 |0,_=>hR
 |k+1,hk=>by
  have hx:g.ns[i]? = some g.ns[i]:=Vb hi;have h1:=Qke hW hi hR k (by omega) (own:=own) (S:=S) (M:=M);have hkl:k<g.ns[i].nx.length:=by omega
  have hch:=(hW.wf.nf i hi).ch _ (Vf hkl);simp only[Qax,chR,hx];have e:g.ns[i].nx.getD k 0=g.ns[i].nx[k]:=by simp[hkl]
  rw[e];exact Qbo h1 (by omega) _
set_option maxRecDepth 10000 in
theorem Qun (hW:Wg g) (hc:c.Ok g) {i:Nat} (hi:i<g.ns.length) {s:TS} {R O:List Int} (hR:R.length=4*g.ns.length) (hO:O.length=4*g.ns.length) {N:Nat} {K:Wr}
 (hexit:∀ env G',TW g H c { s with R:=Qax g false s.S c.M R i g.ns[i].nx.length,O:=Qax g true s.S c.M O i g.ns[i].nx.length } G'->K (.exit 0) env G') :
 ∀ (m k:Nat) (env:Env) (G:Ws),k+m=g.ns[i].nx.length ->
  TW g H c { s with R:=Qax g false s.S c.M R i k,O:=Qax g true s.S c.M O i k } G ->
  env.get 0=.ptr (.own (pW H g) 0 0 0 0) 0->env.get 1=i64 i->env.get 4=.ptr (.slc (nds g.ns) g.ns.length) (i*6)->env.get 20=.slc (Qa g.ns[i].nx) g.ns[i].nx.length->env.get 21=i64 g.ns[i].nx.length->env.get 22=i64 k ->
  LI Tryz.prog N Qb Qjj env G K:=by
 have hn:=hW.gd.n;have hnx60:g.ns[i].nx.length<=60:=Qc7 (hW.gd.e _ (Vf hi));have hx:g.ns[i]? = some g.ns[i]:=Vb hi;have hp1:=hW.gd.p1;have hp4:=hW.gd.p4;intro m
 induction m with
 |zero =>
  intro k env G hk h h0 h1 h4 h20 h21 h22;refine Qc hm Qjj.eq_1 ?_;have e:k=g.ns[i].nx.length:=by omega
  subst e;simp -implicitDefEqProofs[h21,h22];exact hexit _ _ h
 |succ m ih =>
  intro k env G hk h h0 h1 h4 h20 h21 h22;refine Qc hm Qjj.eq_1 ?_;have hkl:k<g.ns[i].nx.length:=by omega
  have hch:=(hW.wf.nf i hi).ch _ (Vf hkl);have hcn:((g.ns[i].nx[k].toNat:Nat):Int)=g.ns[i].nx[k]:=by omega
  have hgd:g.ns[i].nx.getD k 0=g.ns[i].nx[k]:=by simp[hkl]
  have hRl:=Qke hW hi hR k (by omega) (own:=false) (S:=s.S) (M:=c.M);have hOl:=Qke hW hi hO k (by omega) (own:=true) (S:=s.S) (M:=c.M);have key1:Qax g false s.S c.M R i (k+1)=Qy (Qax g false s.S c.M R i k) g.ns[i].nx[k].toNat (Qt g.pl.toNat (QS g false s.S c.M (Qax g false s.S c.M R i k) i k) (QD (Qax g false s.S c.M R i k) i)):=by simp only[Qax,chR,hx,hgd]
  have key2:Qax g true s.S c.M O i (k+1)=Qy (Qax g true s.S c.M O i k) g.ns[i].nx[k].toNat (Qt g.pl.toNat (QS g true s.S c.M (Qax g true s.S c.M O i k) i k) (QD (Qax g true s.S c.M O i k) i)):=by simp only[Qax,chR,hx,hgd]
  have ih2:=λ(env:Env) (G:Ws)=>ih (k+1) env G (by omega);rw[key1,key2]at ih2;generalize Qax g false s.S c.M R i k=R1 at *;generalize Qax g true s.S c.M O i k=O1 at *;have hw:=h.cw0;have w1:=Qw (show k<9223372036854775807 by omega);simp -implicitDefEqProofs[h0,h1,h4,h20,h21,h22,hkl];have hcall:=ok89 hW h [] hi hkl;rw[Vr]at hcall;refine⟨by omega,Qh hcall ?_⟩;generalize hc2:g.ns[i].nx[k].toNat=ch at *;have hchn:ch<g.ns.length:=by omega
  rw[<-hcn];have hR2:=oc0 h.r;have hO2:=oc0 h.o;have hs1:=QY h.r;have hA:=h.setR (X:=Qy R1 ch (QD R1 i)) (Qbo hRl hchn _);have hs2:=QY hA.o;have hO3:=oc0 hA.o;have hB:=hA.setO (X:=Qy O1 ch (QD O1 i)) (Qbo hOl hchn _);have hw2:=hB.cw0;have m1:min 4 (R1.length-i*4)=4:=by omega
  have m2:min 4 (O1.length-i*4)=4:=by omega
  have c1:∀ l:List Int,QH (List.take 4 (List.drop (i*4) (Qa l))):=λl=>by rw[Qwb,Qm6]; simp
  simp -implicitDefEqProofs[h0,h1,h4,h20,h21,h22,hw,hw2,QA,hR2,hO2,hO3,hi,hchn,m1,m2,c1,hs1,hs2,Qog hRl hi,Qog hOl hi];repeat (refine⟨by omega,?_⟩)
  rw[<-QcS (QS g false s.S c.M R1 i k) (QD R1 i),<- QcS (QS g true s.S c.M O1 i k) (QD O1 i)]at hB;have hne:i≠ch:=by omega
  refine Qrm (H:=H) hW hc (k:=k) hi hchn hne (s:=s) (R:=R1) (O:=O1) hRl hOl (x20:=.slc (Qa g.ns[i].nx) g.ns[i].nx.length) (x21:=i64 g.ns[i].nx.length) (x22:=i64 k) (λenv G' hG' g0 g1 g4 g20 g21 g22 => ?_) g.pl.toNat 0 _ _ (by omega) ?_ (by simp) (by simp) (by simp) (by simp) (by simp) (by simp) (by simp) (by simp) (by simp) (by simp) (by simp)
  . simp -implicitDefEqProofs[g0,g1,g4,g20,g21,g22];refine ih2 _ _ hG' ?_ ?_ ?_ ?_ ?_ ?_
    . simp[g0]
    . simp[g1]
    . simp[g4]
    . simp[g20]
    . simp[g21]
    . simp[w1]
  . rw[QcS,QcS]at hB ⊢;exact hB
set_option maxRecDepth 10000 in
theorem ok58 (hW:Wg g) (hc:c.Ok g) {s:TS} {G:Ws} (h:TW g H c s G) {i:Nat} (hi:i<g.ns.length) :
 OkP Tryz.prog 58 [.ptr (.own (pW H g) 0 0 0 0) 0,i64 i] G λout G'=>out=.ret (.tup [])/\TW g H c { s with R:=Qax g false s.S c.M s.R i g.ns[i].nx.length,O:=Qax g true s.S c.M s.O i g.ns[i].nx.length } G':=by
 have hlt:=h.ltw;have hn:=hW.gd.n;have hw:=h.cw0;refine Qce hm Tryz.func58 c58 (by simp[hlt]) λhcl => ?_;simp -implicitDefEqProofs[i58,r58,hw,QA,hi,nd3 hi,Qam];repeat (refine⟨by omega,?_⟩)
 refine Qun (H:=H) hW hc hi (s:=s) (R:=s.R) (O:=s.O) h.l.R h.l.O (λenv G' hG' => ?_) g.ns[i].nx.length 0 _ _ (by omega) h (by simp) (by simp) (by simp) (by simp) (by simp) (by simp);simp -implicitDefEqProofs;exact⟨_,_,⟨rfl,hG'⟩,Qo⟩
end
end Go.Proofs.YtogjmpkehjfecaaGreatDoor.Rc
namespace Go.Proofs.YtogjmpkehjfecaaGreatDoor.Rc
open Go.Ab Go.Ab.Lm
section
variable {H X:Ws}
set_option maxRecDepth 10000 in
theorem Qry {l m0:List Nat} {k v:Nat} (hk:X[k]? = some ⟨us l,114,v,true⟩) {N:Nat} {K:Wr} (hexit:∀ env,env.get 0=.own k 0 (QF m0).length 1 v->K (.exit 0) env X) :
 ∀ (n:Nat) (m:List Nat) (env:Env) (s:List Nat),n<1000000->m.length=n->m++s=l->QF m=QF m0->env.get 0=.own k 0 m.length 1 v->LI Tryz.prog N Qb Qc8 env X K:=by
 intro n
 induction n with
 |zero =>
  intro m env s hn hm0 hs ht h0;refine Qc hm' Qc8.eq_1 ?_;have:m=[]:=Vx hm0;subst this;simp -implicitDefEqProofs[h0];refine hexit _ ?_;rw[<-ht]; simp[QF]
 |succ n ih =>
  intro m env s hn hml hs ht h0;refine Qc hm' Qc8.eq_1 ?_;obtain⟨m',y,rfl⟩:∃ m' y,m=m'++[y]:=⟨m.dropLast,m.getLast (by intro e; rw[e]at hml; simp at hml),(Z9 _).symm⟩;have hm':m'.length=n:=by simp at hml; exact hml
  have w1:IntKind.i64.wrap (n:Int)=n:=QcI (by omega);have hc:=Qak (o:=⟨us l,114,v,true⟩) hk rfl;have hln:n<l.length:=by rw[<-hs]; simp; omega
  have e2:(us l)[n]?.getD .any=.val (.int .u32 y):=by
   rw[QbM hln];have:l[n]=y:=by subst hs; simp[List.getElem_append,hm']
   rw[this]; rfl
  have e2':∀ h,(us l)[n]'h=.val (.int .u32 y):=λh=>by
   have:=e2;rw[Vb h]at this;simpa using this
  have hll:(us l).length=l.length:=Qab l;by_cases hy:y=0
  . subst hy;simp -implicitDefEqProofs[h0,w1,hm',hc,e2,e2',hll];repeat (refine⟨by omega,?_⟩)
    refine ih m' _ ([0]++s) (by omega) hm' (by rw[<-hs]; simp) (by rw[<-ht,Qiy]) ?_;simp[hm']
  . have hy':¬ (y:Int)=0:=by omega
    simp -implicitDefEqProofs[h0,w1,hm',hc,e2,e2',hll,hy,hy'];repeat (refine⟨by omega,?_⟩)
    refine hexit _ ?_;rw[<-ht,QhW hy];simp[hm']
theorem QpD {l m s:List Nat} {k v:Nat} (hk:X[k]? = some ⟨us l,114,v,true⟩) (hs:m++s=l) (hl:m.length<1000000):OkP Tryz.prog 130 [.own k 0 m.length 1 v] X λo X'=>o=.ret (.own k 0 (QF m).length 1 v)/\X'=X:=by
 have hlt:=Qg hk;refine Qce hm' Tryz.func130 Qki (by simp[hlt]) λhcl => ?_;simp -implicitDefEqProofs[Qif,Qhw];refine Qry (m0:=m) hk (λenv h0 => ?_) m.length m _ s hl rfl hs rfl (by simp);simp -implicitDefEqProofs[h0];exact⟨_,_,⟨rfl,rfl⟩,Qo⟩
theorem QpF {n:Nat} {L:Ws} {l m s:List Nat} {k d v:Nat} (hs:m++s=l) (h:L[k]? = some ⟨us l,114,v,true⟩):SV.fz n [] L (d+2) (.own (n+k) 0 (QF m).length 1 v)=.slc (us (QF m)) (QF m).length:=by
 have hl:=QlY m;have e:(us l).take (QF m).length=us (QF m):=by
  unfold us;rw[<-ZP,<- hs,Y0 hl,Qg4]
 have hll:(QF m).length<=l.length:=by rw[<-hs]; simp; omega
 rw[Qf1,h];simp[Qah,Qab,Qd9,QbW,e,hll]
theorem QtG {R n:Nat} {y:List Nat} {x0 x4 x6 x7 x9:SV} (hy:y.length=n) (hn:1<=n) (hR:R / B ^ (n-1)<B*B) (hRl:(lim R).length<1000000) (hnl:n<1000000) {N:Nat} {K:Wr}
 (hexit:∀ env,env.get 0=x0->env.get 1=.slc (us y) y.length->env.get 4=x4->env.get 5=nS R->env.get 6=x6->env.get 7=x7->env.get 9=x9->env.get 10=.val (.int .u64 (R / B ^ (n-1):Nat))->K (.exit 2) env X) :
 ∀ (m:Nat) (k:Nat) (env:Env),k<=(lim R).length->n-1+m=max k (n-1)->env.get 0=x0->env.get 1=.slc (us y) y.length->env.get 4=x4->env.get 5=nS R->env.get 6=x6->env.get 7=x7->env.get 9=x9 ->
  env.get 10=.val (.int .u64 (R / B ^ k:Nat))->(k<n-1->R / B ^ k=0)->env.get 11=i64 ((k:Int)-1)->LI Tryz.prog N Qb QgP env X K:=by
 have hB:B=1000000000:=rfl;have wy:IntKind.i64.wrap ((y.length:Int)-1)=(y.length:Int)-1:=Qp (by omega) (by omega);intro m
 induction m with
 |zero =>
  intro k env hk hm h0 h1 h4 h5 h6 h7 h9 h10 hz h11;refine Qc hm' QgP.eq_1 ?_;have hkn:k<=n-1:=by omega
  have e:R / B ^ k=R / B ^ (n-1):=by
   by_cases e:k=n-1
   . rw[e]
   . rw[hz (by omega)];have h1:=hz (by omega);have h2:R / B ^ (n-1)<=R / B ^ k:=Nat.div_le_div_left (Y3 Qd2 (by omega)) (QgD k);rw[h1]at h2;exact(Nat.le_zero.1 h2).symm
  rw[e]at h10;simp -implicitDefEqProofs[h0,h1,h4,h5,h6,h7,h9,h10,h11,wy,show ¬ (y.length:Int)-1<=(k:Int)-1 by omega];exact hexit _ (by simp[h0]) (by simp[h1]) (by simp[h4]) (by simp[h5]) (by simp[h6]) (by simp[h7]) (by simp[h9]) (by simp[h10])
 |succ m ih =>
  intro k env hk hm h0 h1 h4 h5 h6 h7 h9 h10 hz h11;refine Qc hm' QgP.eq_1 ?_;obtain⟨j,rfl⟩:∃ j,k=j+1:=⟨k-1,by omega⟩;have hjR:j<(lim R).length:=by omega
  have ej:((j+1:Nat):Int)-1=j:=by omega
  rw[ej]at h11;have w1:IntKind.i64.wrap ((j:Int)-1)=(j:Int)-1:=Qp (by omega) (by omega);have g:(us (lim R))[j]?.getD .any=.val (.int .u32 (lim R)[j]):=QbM hjR;have g':∀ h,(us (lim R))[j]'h=.val (.int .u32 (lim R)[j]):=λh=>Qcv hjR h;have dj:=Qbn R _ (Vf hjR);have hs:R / B ^ j=(R / B ^ (j+1))*B+(lim R)[j]:=by
   rw[Qfw hjR,V3,<- Y6];have:=Zo (R / B ^ j) B;rw[VB]at this;exact this.symm
  have hjb:R / B ^ j<=R / B ^ (n-1):=Nat.div_le_div_left (Y3 Qd2 (by omega)) (QgD _);have hBB:B*B=1000000000000000000:=rfl;obtain⟨u,hu⟩:∃ u,u=R / B ^ (j+1):=⟨_,rfl⟩;obtain⟨t,ht⟩:∃ t,t=R / B ^ j:=⟨_,rfl⟩;obtain⟨p,hp⟩:∃ p,p=u*B:=⟨_,rfl⟩;rw[<-hu,<- ht,<- hp]at hs;rw[<-hu]at h10;have wp:IntKind.u64.wrap ((u:Int)*1000000000)=(p:Int):=by
   rw[show(u:Int)*1000000000=((p:Nat):Int)by rw[hp,hB]; simp,Q9 (by omega)]
  have wr:=Q9 (n:=(lim R)[j]) (by omega);have wt:IntKind.u64.wrap ((p:Int)+((lim R)[j]:Nat))=(t:Int):=by
   rw[show(p:Int)+((lim R)[j]:Nat)=((t:Nat):Int)by omega,Q9 (by omega)]
  have hih:=ih j;rw[<-ht]at hih;simp only[nS]at h5 hih;simp -implicitDefEqProofs[h0,h1,h4,h5,h6,h7,h9,h10,h11,wy,show(y.length:Int)-1<=(j:Int)by omega,hjR,Qab,g,g',wp,wr,wt];repeat (refine⟨by omega,?_⟩)
  refine hih _ (by omega) (by omega) ?_ ?_ ?_ ?_ ?_ ?_ ?_ ?_ (λh=>by omega) ?_
  . simp[h0]
  . simp
  . simp[h4]
  . simp
  . simp[h6]
  . simp[h7]
  . simp[h9]
  . simp
  . simp[w1]
theorem QtV {R b:Nat} {x0 x4 x6 x7 x9:SV} (hb:0<b) (hRl:(lim R).length<100000) (hbl:(lim b).length<100000) {N:Nat} {K:Wr}
 (hexit:∀ env,env.get 0=x0->env.get 1=nS b->env.get 4=x4->env.get 5=nS R->env.get 6=x6->env.get 7=x7->env.get 9=x9->env.get 12=.val (.int .u64 (R / b:Nat))->K (.exit 4) env X) :
 ∀ (d:Nat) (env:Env),d<B->R / b<=d->env.get 0=x0->env.get 1=nS b->env.get 4=x4->env.get 5=nS R->env.get 6=x6->env.get 7=x7->env.get 9=x9->env.get 12=.val (.int .u64 (d:Nat))->LI Tryz.prog N Qb QiN env X K:=by
 have hB:B=1000000000:=rfl;intro d
 induction d with
 |zero =>
  intro env hd hq h0 h1 h4 h5 h6 h7 h9 h12;refine Qc hm' QiN.eq_1 ?_;have w:=Qcl (n:=0) (by omega);have hl0:(lim 0).length=0:=by rw[QaZ]; rfl
  have h42:=λH=>Qgc (H:=H) (a:=b) (b:=0) (by omega);have h44:=λH=>QiH (H:=H) (a:=b*0) (b:=R) (by rw[ZM]; omega) (by omega);rw[ZM]at h42 h44;simp -implicitDefEqProofs[h0,h1,h4,h5,h6,h7,h9,h12];refine Qh (Qi1 (n:=0) (by decide)) ?_;simp -implicitDefEqProofs[h0,h1,h4,h5,h6,h7,h9,h12];refine Qh (h42 _) ?_;simp -implicitDefEqProofs[h0,h1,h4,h5,h6,h7,h9,h12];refine Qh (h44 _) ?_;have e:¬ 0<QaJ 0 R:=by unfold QaJ; split<;>simp
  have hz:R / b=0:=Nat.le_zero.1 hq;rw[hz]at hexit;simp -implicitDefEqProofs[e,h0,h1,h4,h5,h6,h7,h9,h12];exact hexit _ (by simp[h0]) (by simp[h1]) (by simp[h4]) (by simp[h5]) (by simp[h6]) (by simp[h7]) (by simp[h9]) (by simp[h12])
 |succ d ih =>
  intro env hd hq h0 h1 h4 h5 h6 h7 h9 h12;refine Qc hm' QiN.eq_1 ?_;obtain⟨c,hc⟩:∃ c,c=d+1:=⟨_,rfl⟩;rw[<-hc]at h12 hd hq;have w:=Qcl (n:=c) (by omega);have hl1:(lim c).length<=1:=Qcr (by simpa using hd);have hlm:(lim (b*c)).length<=(lim b).length+1:=Qcr (by
   rw[V3];exact Nat.mul_lt_mul'' (Qde b) hd)
  have h42:=λH=>Qgc (H:=H) (a:=b) (b:=c) (by omega);have h44:=λH=>QiH (H:=H) (a:=b*c) (b:=R) (by omega) (by omega);have h82:=λH=>Qi1 (H:=H) (n:=c) hd;simp -implicitDefEqProofs[h0,h1,h4,h5,h6,h7,h9,h12,w];refine Qh (h82 _) ?_;simp -implicitDefEqProofs[h0,h1,h4,h5,h6,h7,h9,h12];refine Qh (h42 _) ?_;simp -implicitDefEqProofs[h0,h1,h4,h5,h6,h7,h9,h12];refine Qh (h44 _) ?_;by_cases hgt:R<b*c
  . have e:0<QaJ (b*c) R:=by unfold QaJ; rw[Wa (by omega),Wb hgt]; decide
    have wd:IntKind.u64.wrap ((c:Int)-1)=(d:Int):=by rw[show(c:Int)-1=((d:Nat):Int)by omega,Q9 (by omega)]
    simp -implicitDefEqProofs[e,h0,h1,h4,h5,h6,h7,h9,h12,wd];refine ih _ (by omega) (by
     have:=Y7 hgt;omega) ?_ ?_ ?_ ?_ ?_ ?_ ?_ ?_
    . simp[h0]
    . simp[h1]
    . simp[h4]
    . simp[h5]
    . simp[h6]
    . simp[h7]
    . simp[h9]
    . simp
  . have e:¬ 0<QaJ (b*c) R:=by unfold QaJ; rw[Wa hgt]; split<;>simp
    have hz:R / b=c:=by
     have:c<=R / b:=(Nat.le_div_iff_mul_le hb).2 (by rw[VB]; omega);omega
    rw[hz]at hexit;simp -implicitDefEqProofs[e,h0,h1,h4,h5,h6,h7,h9,h12];exact hexit _ (by simp[h0]) (by simp[h1]) (by simp[h4]) (by simp[h5]) (by simp[h6]) (by simp[h7]) (by simp[h9]) (by simp[h12])
theorem Qrt {R f k v n:Nat} {A:Ws} {x4:SV} (hf:0<f) (hfB:f<B) (hRl:(lim R).length<100000) {N:Nat} {K:Wr}
 (hexit:∀ env X l,X[k]? = some ⟨us l,114,v,true⟩->(∀ j,j≠k->X[j]? = A[j]?)->X.length=A.length->(∃ s,∃ m:List Nat,m++s=l/\m.length=(lim R).length/\Dig m/\val m=R / f)->env.get 4=x4->env.get 5=.own k 0 (lim R).length 1 v->K (.exit 6) env X) :
 ∀ (i:Nat) (env:Env) (X:Ws) (l s m:List Nat),i<=(lim R).length->X[k]? = some ⟨us l,114,v,true⟩->(∀ j,j≠k->X[j]? = A[j]?)->X.length=A.length->m++s=l->m.length=(lim R).length->m.take i=(lim R).take i->Dig m->val (m.drop i)=R / B ^ i / f ->
  env.get 4=x4->env.get 5=.own k 0 (lim R).length 1 v->env.get 6=nS f->env.get 13=.val (.int .u64 (R / B ^ i % f:Nat))->env.get 14=i64 ((i:Int)-1)->LI Tryz.prog N Qb QiY env X K:=by
 have hB:B=1000000000:=rfl;have hBB:B*B=1000000000000000000:=rfl;have elf:lim f=[f]:=by
  rw[Qcx (by omega),YP hfB,YG hfB,QaZ]
 intro i
 induction i with
 |zero =>
  intro env X l s m hi hX ho hXl hms hml ht hd hv h4 h5 h6 h13 h14;refine Qc hm' QiY.eq_1 ?_;simp -implicitDefEqProofs[h4,h5,h6,h13,h14];exact hexit _ X l hX ho hXl ⟨s,m,hms,hml,hd,by simpa using hv⟩ (by simp[h4]) (by simp[h5])
 |succ i ih =>
  intro env X l s m hi hX ho hXl hms hml ht hd hv h4 h5 h6 h13 h14;refine Qc hm' QiY.eq_1 ?_;have hiR:i<(lim R).length:=by omega
  have him:i<m.length:=by omega
  have hil:i<l.length:=by rw[<-hms]; simp; omega
  have ej:((i+1:Nat):Int)-1=i:=by omega
  rw[ej]at h14;have w1:IntKind.i64.wrap ((i:Int)-1)=(i:Int)-1:=Qp (by omega) (by omega);have hli:l[i]=(lim R)[i]:=by
   have h1:l[i]? = (lim R)[i]? := by
    rw[<-hms,Ve him];have:=Wn (λl=>l[i]?) ht;simpa[VC]using this
   rw[Vb hil,Vb hiR]at h1;simpa using h1
  have hc:=oc0 hX;have hst:=QY hX;have dj:=Qbn R _ (Vf hiR);have g:(us l)[i]?.getD .any=.val (.int .u32 (lim R)[i]):=by rw[QbM hil,hli]; rfl
  have g':∀ h,(us l)[i]'h=.val (.int .u32 (lim R)[i]):=λh=>by rw[Qcv hil,hli]; rfl
  have hll:(us l).length=l.length:=Qab l;obtain⟨Q,hQ⟩:∃ Q,Q=R / B ^ (i+1):=⟨_,rfl⟩;obtain⟨c,hcc⟩:∃ c,c=Q % f:=⟨_,rfl⟩;rw[<-hQ,<- hcc]at h13;have hcf:c<f:=by rw[hcc]; exact Yo _ hf
  have hRi:R / B ^ i=(lim R)[i]+B*Q:=by
   rw[Qfw hiR,hQ,V3,<- Y6];exact(Nat.mod_add_div _ _).symm
  obtain⟨p,hp⟩:∃ p,p=c*B:=⟨_,rfl⟩;obtain⟨t,ht2⟩:∃ t,t=p+(lim R)[i]:=⟨_,rfl⟩;have hpb:p+B<=B*B:=by
   rw[hp];have:(c+1)*B<=B*B:=YD B (by omega);rw[V2,Nat.one_mul]at this;exact this
  have wp:IntKind.u64.wrap ((c:Int)*1000000000)=(p:Int):=by
   rw[show(c:Int)*1000000000=((p:Nat):Int)by rw[hp,hB]; simp,Q9 (by omega)]
  have wr:=Q9 (n:=(lim R)[i]) (by omega);have wt:IntKind.u64.wrap ((p:Int)+((lim R)[i]:Nat))=(t:Int):=by
   rw[show(p:Int)+((lim R)[i]:Nat)=((t:Nat):Int)by omega,Q9 (by omega)]
  have wf:=Q9 (n:=f) (by omega);obtain⟨q,hq⟩:∃ q,q=t / f:=⟨_,rfl⟩;obtain⟨r,hr⟩:∃ r,r=t % f:=⟨_,rfl⟩;have hqb:q<B:=by
   rw[hq];apply Y7;have:(c+1)*B<=f*B:=YD B hcf;rw[V2,Nat.one_mul]at this;omega
  have td:((t:Int)).tdiv (f:Int)=(q:Int):=by rw[hq]; rfl
  have tm:((t:Int)).tmod (f:Int)=(r:Int):=by rw[hr]; rfl
  have hrf:r<f:=by rw[hr]; exact Yo _ hf
  have wq:=Q9 (n:=q) (by omega);have wq2:=Qcl (n:=q) (by omega);have wrr:=Q9 (n:=r) (by omega);have hset:=Qg2 hil q;have hk:=Qg hX;have hfz:¬ (f:Int)=0:=by omega
  have ef:us (lim f)=[.val (.int .u32 (f:Int))]:=by rw[elf]; rfl
  have efl:(lim f).length=1:=by rw[elf]; rfl
  simp only[nS,ef,efl]at h6;have hQf:B*Q=f*(B*(Q / f))+p:=by
   have:=Zo Q f;rw[<-hcc]at this;conv=>lhs; rw[<-this]
   rw[Ys,Nat.mul_left_comm,hp,VB c B]
  have hts:R / B ^ i=f*(B*(Q / f))+t:=by rw[hRi,hQf,ht2]; omega
  have hdv:R / B ^ i / f=B*(Q / f)+q:=by
   rw[hts,Nat.mul_add_div hf,hq]
  have hmd:R / B ^ i % f=r:=by
   rw[hts,Nat.mul_add_mod,hr]
  have hih:=ih;rw[hdv,hmd]at hih;simp -implicitDefEqProofs[h4,h5,h6,h13,h14,hc,hil,hll,hst,g,g',wp,wr,wt,wf,td,tm,wq,wq2,wrr,hset,hfz,hiR];repeat (refine⟨by omega,?_⟩)
  refine⟨rfl,?_⟩;repeat (refine⟨by omega,?_⟩)
  refine hih _ _ (l.set i q) s (m.set i q) (by omega) (by rw[Vg hk]) (λj hj=>by rw[Vd (λe=>hj e.symm)]; exact ho j hj) (by rw[VY]; exact hXl) ?_ (by rw[VY]; exact hml) ?_ (hd.set hqb) ?_ ?_ ?_ ?_ ?_ ?_
  . rw[<-hms,Yj _ _ him]
  . apply Vv;intro j;have h1:=Wn (λl=>l[j]?) ht;simp only[VC]at h1 ⊢;by_cases hj:j<i
    . rw[Wb hj,Wb hj,Vd (by omega)];rw[Wb (by omega),Wb (by omega)]at h1;exact h1
    . rw[Wa hj,Wa hj]
  . have hms2:i<(m.set i q).length:=by rw[VY]; exact him
    have e1:(m.set i q).drop i=q::m.drop (i+1):=by
     rw[Vy hms2,List.getElem_set_self];congr 1;apply Vv;intro j;rw[Vs,Vs,Vd (by omega)]
    rw[e1,val,hv,<- hQ];omega
  . simp[h4]
  . simp
  . simp[nS,ef,efl]
  . simp
  . simp[w1]
end
structure DV (H:Ws) (gq j A bb k v:Nat) (X:Ws):Prop where
 low:∀ i,i<H.length->X[i]? = H[i]?
 hq:∃ qs,X[H.length+1]? = some ⟨us qs,114,1,true⟩/\qs.length=gq+1/\Dig qs/\val (qs.drop j)=A / B ^ j / bb
 hr:∃ s,X[k]? = some ⟨us (lim (A / B ^ j % bb)++s),114,v,true⟩
 hk:H.length<=k/\k≠H.length+1
section
variable {H X:Ws}
set_option maxRecDepth 10000 in
theorem Qsl {A bb gq n top:Nat} {x6:SV} (hb:0<bb) (hn:(lim bb).length=n+1) (hA:(lim A).length=n+1+gq) (hl:n+1+gq<50000) (htop:top=bb / B ^ n) (ht0:0<top) (htB:top<B) {N:Nat} {K:Wr}
 (hexit:∀ env X k v,DV H gq 0 A bb k v X->env.get 4=.own (H.length+1) 0 (gq+1) 1 1->env.get 5=.own k 0 (lim (A % bb)).length 1 v->env.get 6=x6->K (.exit 0) env X) :
 ∀ (j:Nat) (env:Env) (X:Ws) (k v:Nat),j<=gq+1->DV H gq j A bb k v X->env.get 0=nS A->env.get 1=nS bb->env.get 4=.own (H.length+1) 0 (gq+1) 1 1->env.get 5=.own k 0 (lim (A / B ^ j % bb)).length 1 v->env.get 6=x6->env.get 7=.val (.int .u64 (top:Nat))->env.get 9=i64 ((j:Int)-1)->LI Tryz.prog N Qb QgC env X K:=by
 have hB:B=1000000000:=rfl;intro j
 induction j with
 |zero =>
  intro env X k v hj h h0 h1 h4 h5 h6 h7 h9;refine Qc hm' QgC.eq_1 ?_;simp -implicitDefEqProofs[h0,h1,h4,h5,h6,h7,h9];exact hexit _ X k v h (by simp[h4]) (by simp[h5]) (by simp[h6])
 |succ i ih =>
  intro env X k v hj h h0 h1 h4 h5 h6 h7 h9;refine Qc hm' QgC.eq_1 ?_;have ej:((i+1:Nat):Int)-1=i:=by omega
  rw[ej]at h9;have hiA:i<(lim A).length:=by omega
  have w1:IntKind.i64.wrap ((i:Int)-1)=(i:Int)-1:=Qp (by omega) (by omega);obtain⟨x,hx⟩:∃ x,x=(lim A)[i]:=⟨_,rfl⟩;have hxB:x<B:=by rw[hx]; exact Qbn A _ (Vf _)
  have g:(us (lim A))[i]?.getD .any=.val (.int .u32 x):=by rw[QbM hiA,hx]; rfl
  have g':∀ h,(us (lim A))[i]'h=.val (.int .u32 x):=λh=>by rw[Qcv hiA,hx]; rfl
  obtain⟨s,hs⟩:=h.hr;obtain⟨qs,hq1,hq2,hq3,hq4⟩:=h.hq;obtain⟨r,hr⟩:∃ r,r=A / B ^ (i+1) % bb:=⟨_,rfl⟩;rw[<-hr]at hs h5;have hrb:r<bb:=by rw[hr]; exact Yo _ hb
  have hrl:=Qdu (YU hrb);have hor:=λL=>QC hs L;have htk:List.take (lim r).length (us (lim r++s))=us (lim r):=by
   unfold us;rw[V8,Y0 (by simp),VA (by simp)]
  have hln:(us (lim r++s)).length=(lim r).length+s.length:=by rw[Qab]; simp
  simp only[nS]at h0;simp -implicitDefEqProofs[h0,h1,h4,h5,h6,h7,h9,hiA,Qab,g,g',hor,htk,hln];repeat (refine⟨by omega,?_⟩)
  refine⟨⟨rfl,rfl,rfl⟩,rfl,?_,?_⟩
  . intro y hy;obtain⟨z,_,rfl⟩:=Vj.1 hy;rfl
  repeat (refine⟨by omega,?_⟩)
  obtain⟨R,hR⟩:∃ R,R=x+B*r:=⟨_,rfl⟩;have eg:SV.val (.int .u32 (x:Int))::us (lim r)=us (x::lim r):=rfl;have etr:QF (x::lim r)=lim R:=by rw[Qu9 hxB,hR]
  have hl69:(x::lim r).length<1000000:=by simp; omega
  have hlen:1+(lim r).length=(x::lim r).length:=by simp; omega
  rw[eg,hlen];have h69:=λH=>Qtq (H:=H) (l:=x::lim r) hl69;rw[etr]at h69;refine QuT X.length 1 (o:=⟨us (x::lim r),114,1,true⟩) (by simp) rfl ?_ (h69 _) ?_
  . simp[Qab];exact VA (by rw[Qab]; simp)
  have hset0:Ab.setObj (X++[(⟨us (x::lim r),114,1,true⟩:AO)]) X.length AO.dead=X++[⟨[],114,2,false⟩]:=by
   rw[QY (o:=⟨us (x::lim r),114,1,true⟩) (by simp)];simp[AO.dead]
  rw[hset0];have hAi:A / B ^ i=x+B*(A / B ^ i / B):=by
   rw[hx,Qfw hiA];exact(Nat.mod_add_div _ _).symm
  have hdd:A / B ^ i / B=A / B ^ (i+1):=by rw[Y6,V3]
  obtain⟨ds1,ds2⟩:=QqA hb hAi;rw[hdd,<- hr,<- hR]at ds1 ds2;have hRb:R<B*bb:=by
   rw[hR];have:B*(r+1)<=B*bb:=YH B hrb;rw[Ys,Yw]at this;omega
  have hbbl:=Qde bb;rw[hn]at hbbl;have hRl:(lim R).length<=n+2:=Qcr (by
   rw[V3,VB];exact Za hRb (YH B (YU hbbl)))
  have hlead:R / B ^ n<B*B:=by
   apply Y7;rw[<-Yg,<- V3,VB];exact Za hRb (YH B (YU hbbl))
  have hBB:B*B=1000000000000000000:=rfl;obtain⟨lead,hle⟩:∃ lead,lead=R / B ^ n:=⟨_,rfl⟩;obtain⟨lq,hlq⟩:∃ lq,lq=lead / top:=⟨_,rfl⟩;have tdl:((lead:Int)).tdiv (top:Int)=(lq:Int):=by rw[hlq]; rfl
  have hlq1:lq<=lead:=by rw[hlq]; exact YS _ _
  have wlq:=Q9 (n:=lq) (by omega);have htz:¬ (top:Int)=0:=by omega
  have htz2:¬ top=0:=by omega
  obtain⟨d0,hd0⟩:∃ d0,d0=min lq 999999999:=⟨_,rfl⟩;have wmin:min (lq:Int) 999999999=(d0:Int):=by omega
  have hd1:R / bb<=d0:=by
   have h1:R / bb<=lq:=by
    rw[hlq,hle,htop];exact QuR (QgD n) (by rw[<-htop]; exact ht0)
   have h2:R / bb<B:=Y7 (by rw[VB]; exact hRb);omega
  have wR:IntKind.i64.wrap (((lim R).length:Int)-1)=((lim R).length:Int)-1:=Qp (by omega) (by omega);simp -implicitDefEqProofs[nS,wR,h0,h1,h4,h5,h6,h7,h9];refine QtG (X:=X++[⟨[],114,2,false⟩]) (R:=R) (n:=n+1) (y:=lim bb) (x0:=nS A) (x4:=.own (H.length+1) 0 (gq+1) 1 1) (x6:=x6) (x7:=.val (.int .u64 (top:Nat))) (x9:=i64 i) hn (by omega) (by simpa using hlead) (by omega) (by omega) (λenv k0 k1 k4 k5 k6 k7 k9 k10 => ?_) (max (lim R).length n-n) (lim R).length _ (Vc _) (by simp; omega) ?_ ?_ ?_ ?_ ?_ ?_ ?_ ?_ ?_ ?_
  . simp only[ZN,<- hle]at k10;simp -implicitDefEqProofs[k0,k1,k4,k5,k6,k7,k9,k10,tdl,wlq,htz,htz2,wmin];refine QtV (X:=X++[⟨[],114,2,false⟩]) (R:=R) (b:=bb) (x0:=nS A) (x4:=.own (H.length+1) 0 (gq+1) 1 1) (x6:=x6) (x7:=.val (.int .u64 (top:Nat))) (x9:=i64 i) hb (by omega) (by omega) (λenv m0 m1 m4 m5 m6 m7 m9 m12 => ?_) d0 _ (by omega) hd1 ?_ ?_ ?_ ?_ ?_ ?_ ?_ ?_
    . obtain⟨d,hd⟩:∃ d,d=R / bb:=⟨_,rfl⟩;rw[<-hd]at m12 ds1 hd1;have hdB:d<B:=by omega
      have wd:=Qcl (n:=d) (by omega);have hdl:(lim d).length<=1:=Qcr (by simpa using hdB);have hbd:bb*d<=R:=by rw[hd]; exact Nat.mul_div_le R bb
      have hbdl:=Qdu hbd;have h82:=λH=>Qi1 (H:=H) (n:=d) hdB;have h42:=λH=>Qgc (H:=H) (a:=bb) (b:=d) (by omega);have h45:=λH=>QtF (H:=H) (a:=R) (b:=bb*d) hbd (by omega) (by omega);simp -implicitDefEqProofs[m0,m1,m4,m5,m6,m7,m9,m12,wd];refine Qh (h82 _) ?_;simp -implicitDefEqProofs[m0,m1,m4,m5,m6,m7,m9,m12];refine Qh (h42 _) ?_;simp -implicitDefEqProofs[m0,m1,m4,m5,m6,m7,m9,m12];refine QbL (h45 _) ?_;rintro o G' ⟨z,G,rfl,rfl,hz1,hz2⟩;have hiq:i<qs.length:=by omega
      have hoq:=λL=>QC hq1 L;have hsq:=λL f=>Qcj hq1 L f;have hset:=Qg2 hiq d;have hql:(us qs).length=gq+1:=by rw[Qab,hq2]
      simp -implicitDefEqProofs[m0,m1,m4,m5,m6,m7,m9,m12,wd,hoq,hsq,hset,hql];repeat (refine⟨by omega,?_⟩)
      refine⟨rfl,?_⟩;repeat (refine⟨by omega,?_⟩)
      have hmod:R-bb*d=A / B ^ i % bb:=by rw[ds2,hd]; have:=Zo R bb; omega
      rw[hmod]at hz1;have hXl:H.length+1<X.length:=Qg hq1;have hlow:=h.low;refine ih _ (X.set (H.length+1) ⟨us (qs.set i d),114,1,true⟩++(⟨[],114,2,false⟩::⟨us z,114,z.length,true⟩::G)) (X.length+1) z.length (by omega) ⟨λu hu => ?_,⟨qs.set i d,?_,?_,hq3.set hdB,?_⟩,⟨z.drop (QF z).length,?_⟩,by omega,by omega⟩ ?_ ?_ ?_ ?_ ?_ ?_ ?_
      . rw[Ve (by rw[VY]; omega),Vd (by omega)];exact hlow u hu
      . rw[Ve (by rw[VY]; omega),Vg hXl]
      . rw[VY]; exact hq2
      . have e1:(qs.set i d).drop i=d::qs.drop (i+1):=by
         rw[Vy (by rw[VY]; exact hiq),List.getElem_set_self];congr 1;apply Vv;intro u;rw[Vs,Vs,Vd (by omega)]
        rw[e1,val,hq4,ds1]
      . rw[Vh (by rw[VY]; omega),VY,show X.length+1-X.length=1 by omega];have e2:lim (A / B ^ i % bb)++z.drop (QF z).length=z:=by
         rw[<-hz1];conv=>rhs; rw[<-YF (QF z).length z]
         rw[Qg4]
        rw[e2]; rfl
      . simp[m0]
      . simp[m1]
      . simp[m4]
      . simp[hmod]
      . simp[m6]
      . simp[m7]
      . simp[w1]
    . simp[k0]
    . simp[k1,nS]
    all_goals simp[k4,k5,k6,k7,k9]
  all_goals (first|(simp[nS,h0,h1,h4,h6,h7,h9]; done)|skip)
  . rw[YG (Qde R)]; simp
  . exact λ_=>YG (Qde R)
end
end Go.Proofs.YtogjmpkehjfecaaGreatDoor.Rc
namespace Go.Proofs.YtogjmpkehjfecaaGreatDoor.Rc
open Go.Ab Go.Ab.Shr
def upA (A:Nat->List Int) (j:Nat) (X:List Int):Nat->List Int:=λk=>if k=j then X else A k
theorem QnT (A:Nat->List Int) (j:Nat) (X:List Int):upA A j X j=X:=by simp[upA]
theorem QmI (A:Nat->List Int) (j:Nat) (X Y:List Int):upA (upA A j X) j Y=upA A j Y:=by funext k; simp only[upA]; split<;>rfl
theorem QgK (A:Nat->List Int) (j:Nat):upA A j (A j)=A:=by funext k; simp only[upA]; split; rename_i e; rw[e]; rfl
theorem QkE (l:List Int):Qe l.length (λa=>l.getD a 0)=l:=by
 apply Vv;intro j;by_cases h:j<l.length
 . rw[Vb (by simpa using h),Qa2 h,Vb h]; simp[h]
 . rw[Vl (by simp; omega),Vl (by omega)]
theorem Qhv {g:Gm} (hW:Wg g) {i:Nat} (hi:i<g.ns.length) (hk:g.ns[i].k=2):0<=g.ns[i].p/\g.ns[i].p<g.pl:=by
 have h3:=hW.gd.e _ (Vf hi);unfold Nd.err Nd.move at h3;rw[Wa (by omega),Wa (by omega),Wb hk]at h3;split at h3
 . omega
 . split at h3
   . rename_i h4; exact absurd h3 h4
   . rename_i h4;rw[Qd7]at h4;split at h4
     . exact absurd (by decide) h4
     . omega
def Qbr (g:Gm) (V R:List Int) (i a:Nat):Int:=match g.ns[i]? with
 |none=>0
 |some x=>IntKind.i64.wrap ((IntKind.i64.wrap (R.getD (i*4+x.p.toNat) 0*IntKind.i64.wrap (V.getD ((x.nx.getD a 0).toNat*4+x.p.toNat) 0-V.getD (i*4+x.p.toNat) 0))).tdiv 1073741824)
def QcR (g:Gm) (V R:List Int) (A:Nat->List Int) (i:Nat):Nat->List Int:=match g.ns[i]? with
 |none=>A
 |some x=>if x.k=2 then upA A x.i.toNat (Qe x.nx.length λa=>IntKind.i64.wrap ((A x.i.toNat).getD a 0+Qbr g V R i a))else A
section
variable {g:Gm} {H G:Ws} {c:TC} {s:TS}
theorem TW.setA (h:TW g H c s G) {j:Nat} (hj:j<g.is.length) {X:List Int} (hX:X.length=g.acts j):TW g H c { s with A:=upA s.A j X } (G.set (pA H g j) ⟨Qa X,3,1,true⟩):=by
 have hlt:=Qg (h.a j hj);have ne:∀ {k:Nat} {x:Option AO},pA H g j≠k->G[k]? = x->(G.set (pA H g j) ⟨Qa X,3,1,true⟩)[k]? = x:=λhn hx=>by rw[Vd hn]; exact hx
 constructor;case l=>exact⟨λi hi=>by simp only[upA]; split; rename_i e; rw[e]; exact hX; exact h.l.A i hi,h.l.P,h.l.S,h.l.V,h.l.R,h.l.O,h.l.ord,h.l.M,h.l.F⟩
 case len=>simpa using h.len
 case cl=>exact QcF h.cl _ (by simp)
 case a =>
  intro i hi; by_cases e:i=j
  . subst e; rw[Vg hlt]; simp[upA]
  . simp only[upA,Wa e]; exact ne (by unfold pA; omega) (h.a i hi)
 case low=>intro i hi; exact ne (by unfold pA; omega) (h.low i hi)
 case p=>intro i hi; exact ne (by unfold pA pP; omega) (h.p i hi)
 case ss=>intro i hi; exact ne (by unfold pA pS; omega) (h.ss i hi)
 case w=>exact ne (by unfold pA pW; omega) h.w
 case m=>exact ne (by unfold pA pM; omega) h.m
 case f=>exact ne (by unfold pA pF; omega) h.f
 case ao=>exact ne (by unfold pA pAo; omega) h.ao
 case po=>exact ne (by unfold pA pPo; omega) h.po
 case so=>exact ne (by unfold pA pSo; omega) h.so
 case v=>exact ne (by unfold pA pV; omega) h.v
 case r=>exact ne (by unfold pA pR; omega) h.r
 case o=>exact ne (by unfold pA pO; omega) h.o
theorem TW.setP (h:TW g H c s G) {j:Nat} (hj:j<g.is.length) {X:List Int} (hX:X.length=g.acts j):TW g H c { s with P:=upA s.P j X } (G.set (pP H g j) ⟨Qa X,3,1,true⟩):=by
 have hlt:=Qg (h.p j hj);have ne:∀ {k:Nat} {x:Option AO},pP H g j≠k->G[k]? = x->(G.set (pP H g j) ⟨Qa X,3,1,true⟩)[k]? = x:=λhn hx=>by rw[Vd hn]; exact hx
 constructor;case l=>exact⟨h.l.A,λi hi=>by simp only[upA]; split; rename_i e; rw[e]; exact hX; exact h.l.P i hi,h.l.S,h.l.V,h.l.R,h.l.O,h.l.ord,h.l.M,h.l.F⟩
 case len=>simpa using h.len
 case cl=>exact QcF h.cl _ (by simp)
 case p =>
  intro i hi; by_cases e:i=j
  . subst e; rw[Vg hlt]; simp[upA]
  . simp only[upA,Wa e]; exact ne (by unfold pP; omega) (h.p i hi)
 case low=>intro i hi; exact ne (by unfold pP; omega) (h.low i hi)
 case a=>intro i hi; exact ne (by unfold pA pP; omega) (h.a i hi)
 case ss=>intro i hi; exact ne (by unfold pP pS; omega) (h.ss i hi)
 case w=>exact ne (by unfold pP pW; omega) h.w
 case m=>exact ne (by unfold pP pM; omega) h.m
 case f=>exact ne (by unfold pP pF; omega) h.f
 case ao=>exact ne (by unfold pP pAo; omega) h.ao
 case po=>exact ne (by unfold pP pPo; omega) h.po
 case so=>exact ne (by unfold pP pSo; omega) h.so
 case v=>exact ne (by unfold pP pV; omega) h.v
 case r=>exact ne (by unfold pP pR; omega) h.r
 case o=>exact ne (by unfold pP pO; omega) h.o
set_option maxRecDepth 10000 in
theorem Qvs (hW:Wg g) {i:Nat} (hi:i<g.ns.length) (hk:g.ns[i].k=2) {A:Nat->List Int} (hA:(A g.ns[i].i.toNat).length=g.ns[i].nx.length) {N:Nat} {K:Wr}
 (hexit:∀ env G',TW g H c { s with A:=upA A g.ns[i].i.toNat (Qe g.ns[i].nx.length λa=>IntKind.i64.wrap ((A g.ns[i].i.toNat).getD a 0+Qbr g s.V s.R i a)) } G'->K (.exit 0) env G') :
 ∀ (m a:Nat) (env:Env) (G:Ws),a+m=g.ns[i].nx.length ->
  TW g H c { s with A:=upA A g.ns[i].i.toNat (Qe g.ns[i].nx.length (Qt a (λa=>IntKind.i64.wrap ((A g.ns[i].i.toNat).getD a 0+Qbr g s.V s.R i a)) λa=>(A g.ns[i].i.toNat).getD a 0)) } G ->
  env.get 0=.ptr (.own (pW H g) 0 0 0 0) 0->env.get 1=i64 i->env.get 5=.own (pA H g g.ns[i].i.toNat) 0 g.ns[i].nx.length 1 1->env.get 6=i64 g.ns[i].p->env.get 39=.slc (Qa g.ns[i].nx) g.ns[i].nx.length->env.get 40=i64 g.ns[i].nx.length->env.get 41=i64 a ->
  LI Tryz.prog N Qb QgY env G K:=by
 have hn:=hW.gd.n;have hx:g.ns[i]? = some g.ns[i]:=Vb hi;obtain⟨a1,a2,a3,a4,a5⟩:=QbE hW hi hk;obtain⟨p1,p2⟩:=Qhv hW hi hk;have hp4:=hW.gd.p4;have hpn:((g.ns[i].p.toNat:Nat):Int)=g.ns[i].p:=by omega
 intro m
 induction m with
 |zero =>
  intro a env G ha h h0 h1 h5 h6 h39 h40 h41;refine Qc hm QgY.eq_1 ?_;have e:a=g.ns[i].nx.length:=by omega
  subst e;simp -implicitDefEqProofs[h40,h41];refine hexit _ _ ?_;have e2:Qe g.ns[i].nx.length (Qt g.ns[i].nx.length (λa=>IntKind.i64.wrap ((A g.ns[i].i.toNat).getD a 0+Qbr g s.V s.R i a)) λa=>(A g.ns[i].i.toNat).getD a 0)=Qe g.ns[i].nx.length λa=>IntKind.i64.wrap ((A g.ns[i].i.toNat).getD a 0+Qbr g s.V s.R i a):=by
   unfold Qe;apply Vt;intro x hx;simp only[VE]at hx;simp only[Qt,Wb hx]
  rw[e2]at h;exact h
 |succ m ih =>
  intro a env G ha h h0 h1 h5 h6 h39 h40 h41;refine Qc hm QgY.eq_1 ?_;have hal:a<g.ns[i].nx.length:=by omega
  have hch:=(hW.wf.nf i hi).ch _ (Vf hal);have hcn:((g.ns[i].nx[a].toNat:Nat):Int)=g.ns[i].nx[a]:=by omega
  have hw:=h.cw0;have hr:=oc0 h.r;have hv:=oc0 h.v;have hra:=oc0 (h.a _ a1);have hst:=QY (h.a _ a1);have eD:Qbr g s.V s.R i a=IntKind.i64.wrap ((IntKind.i64.wrap (s.R.getD (i*4+g.ns[i].p.toNat) 0*IntKind.i64.wrap (s.V.getD (g.ns[i].nx[a].toNat*4+g.ns[i].p.toNat) 0-s.V.getD (i*4+g.ns[i].p.toNat) 0))).tdiv 1073741824):=by simp[Qbr,hx,hal]
  have eP:=Qdg a (λa=>IntKind.i64.wrap ((A g.ns[i].i.toNat).getD a 0+Qbr g s.V s.R i a)) λa=>(A g.ns[i].i.toNat).getD a 0;have eM:=Qfk a (λa=>IntKind.i64.wrap ((A g.ns[i].i.toNat).getD a 0+Qbr g s.V s.R i a)) λa=>(A g.ns[i].i.toNat).getD a 0;have hA2:=h.setA a1 (X:=Qe g.ns[i].nx.length (Qt (a+1) (λa=>IntKind.i64.wrap ((A g.ns[i].i.toNat).getD a 0+Qbr g s.V s.R i a)) λa=>(A g.ns[i].i.toNat).getD a 0)) (by simp[a3]);have w1:=Qw (show a<9223372036854775807 by omega);have hlV:=h.l.V;have hlR:=h.l.R;simp only[QnT]at hra hst;simp only[QmI]at hA2;rw[<-eP]at hA2;have ih2:=λ(env:Env) (G:Ws)=>ih (a+1) env G (by omega);rw[<-eP]at ih2;generalize Qt a (λa=>IntKind.i64.wrap ((A g.ns[i].i.toNat).getD a 0+Qbr g s.V s.R i a)) (λa=>(A g.ns[i].i.toNat).getD a 0)=F at *;have e3:∀ y:Int,List.take a (Qa (Qe g.ns[i].nx.length F))++i64 y::List.drop (a+1) (Qa (Qe g.ns[i].nx.length F))=Qa (Qe g.ns[i].nx.length (put F a y)):=λy=>by rw[Qar (by simpa using hal),Qco]
  have e4:(Qa (Qe g.ns[i].nx.length F))[a]?.getD .any=i64 (F a):=by rw[Qbz (by simpa using hal),Qb9 hal]
  have b1:i*4+g.ns[i].p.toNat<s.R.length:=by simp only at hlR; omega
  have b2:i*4+g.ns[i].p.toNat<s.V.length:=by simp only at hlV; omega
  have b3:g.ns[i].nx[a].toNat*4+g.ns[i].p.toNat<s.V.length:=by simp only at hlV; omega
  simp only at hr hv;have eV1:s.V.getD (g.ns[i].nx[a].toNat*4+g.ns[i].p.toNat) 0=s.V[g.ns[i].nx[a].toNat*4+g.ns[i].p.toNat]:=by simp[b3]
  have eV2:s.V.getD (i*4+g.ns[i].p.toNat) 0=s.V[i*4+g.ns[i].p.toNat]:=by simp[b2]
  have eR1:s.R.getD (i*4+g.ns[i].p.toNat) 0=s.R[i*4+g.ns[i].p.toNat]:=by simp[b1]
  rw[eV1,eV2,eR1]at eD;simp -implicitDefEqProofs[h0,h1,h5,h6,h39,h40,h41,hal,hw,hr,hv,hra,QA,hi,b1,b2,b3,hst,e3,e4,Qa2 hal];repeat (refine⟨by omega,?_⟩)
  rw[<-eD,eM];refine ih2 _ _ hA2 ?_ ?_ ?_ ?_ ?_ ?_ ?_
  . simp
  . simp
  . simp
  . simp
  . simp
  . simp
  . simp[w1]
set_option maxRecDepth 10000 in
theorem ok59 (hW:Wg g) (h:TW g H c s G) {i:Nat} (hi:i<g.ns.length) :
 OkP Tryz.prog 59 [.ptr (.own (pW H g) 0 0 0 0) 0,i64 i] G λout G'=>out=.ret (.tup [])/\TW g H c { s with A:=QcR g s.V s.R s.A i } G':=by
 have hlt:=h.ltw;have hn:=hW.gd.n;have hw:=h.cw0;have hx:g.ns[i]? = some g.ns[i]:=Vb hi;refine Qce hm Tryz.func59 c59 (by simp[hlt]) λhcl => ?_;by_cases hk:g.ns[i].k=2
 . obtain⟨a1,a2,a3,a4,a5⟩:=QbE hW hi hk;obtain⟨p1,p2⟩:=Qhv hW hi hk;have hao:=oc0 h.ao;have e:QcR g s.V s.R s.A i=upA s.A g.ns[i].i.toNat (Qe g.ns[i].nx.length λa=>IntKind.i64.wrap ((s.A g.ns[i].i.toNat).getD a 0+Qbr g s.V s.R i a)):=by simp only[QcR,hx,Wb hk]
   have hl:(s.A g.ns[i].i.toNat).length=g.ns[i].nx.length:=by rw[h.l.A _ a1,a3]
   simp -implicitDefEqProofs[i59,r59,hw,QA,hi,nd0 hi,nd1 hi,nd2 hi,nd3 hi,Qam,hk,hao,Qdc a1,a1,a2,a3];repeat (refine⟨by omega,?_⟩)
   rw[e];have h0:TW g H c { s with A:=upA s.A g.ns[i].i.toNat (Qe g.ns[i].nx.length (Qt 0 (λa=>IntKind.i64.wrap ((s.A g.ns[i].i.toNat).getD a 0+Qbr g s.V s.R i a)) λa=>(s.A g.ns[i].i.toNat).getD a 0)) } G:=by
    rw[QcS,<- hl,QkE,QgK]; exact h
   refine Qvs (s:=s) hW hi hk hl (λenv G' hG' => ?_) g.ns[i].nx.length 0 _ _ (by omega) h0 (by simp) (by simp) (by simp) (by simp) (by simp) (by simp) (by simp);simp -implicitDefEqProofs;exact⟨_,_,⟨rfl,hG'⟩,Qo⟩
 . have e:QcR g s.V s.R s.A i=s.A:=by simp only[QcR,hx,Wa hk]
   rw[e];simp -implicitDefEqProofs[i59,r59,hw,QA,hi,nd0 hi,Qam,hk];repeat (refine⟨by omega,?_⟩)
   exact⟨_,_,⟨rfl,h⟩,Qo⟩
end
def Qcf (s:TS) (i a:Nat):Prop:=¬ (s.A i).getD a 0 < -70368744177664/\¬ 70368744177664<(s.A i).getD a 0/\¬ 70368744177664<(s.P i).getD a 0
def Qbc (g:Gm) (s:TS):Prop:=∀ i,i<g.is.length->∀ a,a<g.acts i->Qcf s i a
def QdL:SV:=.ifc 65 (.agg [i64 5])
theorem Qo6 {s:Nat}:∀ {l:List Nd} {o:Nat} {a:Int} {r:List Int},occ s l o=a::r->∃ t,∃ ht:t<l.length,a=((o+t:Nat):Int)/\l[t].k=2/\l[t].i.toNat=s/\∀ u (hu:u<t),¬ (l[u].k=2/\l[u].i.toNat=s)
 |[],o,a,r,h=>by simp[occ]at h
 |x::l,o,a,r,h=>by
  unfold occ at h;by_cases hc:x.k=2/\x.i.toNat=s
  . rw[Wb hc]at h
    cases h
    exact⟨0,by simp,by simp,hc.1,hc.2,λu hu=>by omega⟩
  . rw[Wa hc]at h;obtain⟨t,ht,h1,h2,h3,h4⟩:=Qo6 h;refine⟨t+1,by simp; omega,by rw[h1]; congr 1; omega,by simpa using h2,by simpa using h3,λu hu => ?_⟩
    cases u with
    |zero=>simpa using hc
    |succ u=>simpa using h4 u (by omega)
theorem fn_of {g:Gm} (hW:Wg g) {i:Nat} (hi:i<g.is.length):∃ t,∃ ht:t<g.ns.length,(g.sets.getD i []).head? = some (t:Int)/\g.ns[t].k=2/\g.ns[t].i.toNat=i/\∀ u (hu:u<t),¬ (g.ns[u].k=2/\g.ns[u].i.toNat=i):=by
 have hl:i<g.sets.length:=by rw[QaT]; exact hi
 have h0:=hW.ne i hl;rw[QhX hl]at h0
 cases h:occ i g.ns 0 with
 |nil=>exact absurd h h0
 |cons a r =>
  obtain⟨t,ht,h1,h2,h3,h4⟩:=Qo6 h;refine⟨t,ht,?_,h2,h3,h4⟩;rw[Qi2 hi,h,h1];simp
theorem QaV {g:Gm} (hW:Wg g) {i:Nat} (hi:i<g.is.length):1<=g.acts i/\g.acts i<=10:=by
 obtain⟨t,ht,_,h2,h3,_⟩:=fn_of hW hi;obtain⟨a1,a2,a3,a4,a5⟩:=QbE hW ht h2;rw[h3]at a3;omega
section
variable {g:Gm} {H G:Ws} {c:TC} {s:TS}
set_option maxRecDepth 10000 in
theorem QvM (hW:Wg g) (h:TW g H c s G) {i:Nat} (hi:i<g.is.length) {x10:SV} {N:Nat} {K:Wr}
 (hpan:¬ Qbc g s->∀ env,K (.panic QdL) env G)
 (hexit:(∀ a,a<g.acts i->Qcf s i a)->∀ env,env.get 0=.ptr (.own (pW H g) 0 0 0 0) 0->env.get 10=x10->env.get 11=i64 i->K (.exit 2) env G) :
 ∀ (m a:Nat) (env:Env),a+m=g.acts i->(∀ b,b<a->Qcf s i b)->env.get 0=.ptr (.own (pW H g) 0 0 0 0) 0->env.get 2=i64 i->env.get 10=x10->env.get 11=i64 i ->
  env.get 21=.own (pA H g i) 0 (g.acts i) 1 1->env.get 22=i64 (g.acts i)->env.get 23=i64 a->LI Tryz.prog N Qb QjD env G K:=by
 have hac:=QaV hW hi;intro m
 induction m with
 |zero =>
  intro a env ha hb h0 h2 h10 h11 h21 h22 h23;refine Qc hm QjD.eq_1 ?_;have e:a=g.acts i:=by omega
  subst e;simp -implicitDefEqProofs[h22,h23];exact hexit hb _ (by simp[h0]) (by simp[h10]) (by simp[h11])
 |succ m ih =>
  intro a env ha hb h0 h2 h10 h11 h21 h22 h23;refine Qc hm QjD.eq_1 ?_;have hal:a<g.acts i:=by omega
  have hw:=h.cw0;have hA:=oc0 (h.a _ hi);have hP:=oc0 (h.p _ hi);have hpo:=oc0 h.po;have lA:=h.l.A _ hi;have lP:=h.l.P _ hi;have bA:a<(s.A i).length:=by omega
  have bP:a<(s.P i).length:=by omega
  have gA:(s.A i).getD a 0=(s.A i)[a]:=by simp[bA]
  have gP:(s.P i).getD a 0=(s.P i)[a]:=by simp[bP]
  have bad:¬ Qcf s i a->¬ Qbc g s:=λhn hk=>hn (hk i hi a hal);have w1:=Qw (show a<9223372036854775807 by omega);by_cases c1:(s.A i)[a] < -70368744177664
  . simp -implicitDefEqProofs[h0,h2,h10,h11,h21,h22,h23,hal,hw,hA,hP,hpo,QA,bA,bP,c1,Qdc hi,hi];repeat (refine⟨by omega,?_⟩)
    exact hpan (bad λh=>h.1 (by rw[gA]; exact c1)) _
  . by_cases c2:70368744177664<(s.A i)[a]
    . simp -implicitDefEqProofs[h0,h2,h10,h11,h21,h22,h23,hal,hw,hA,hP,hpo,QA,bA,bP,c1,c2,Qdc hi,hi];repeat (refine⟨by omega,?_⟩)
      exact hpan (bad λh=>h.2.1 (by rw[gA]; exact c2)) _
    . by_cases c3:70368744177664<(s.P i)[a]
      . simp -implicitDefEqProofs[h0,h2,h10,h11,h21,h22,h23,hal,hw,hA,hP,hpo,QA,bA,bP,c1,c2,c3,Qdc hi,hi];repeat (refine⟨by omega,?_⟩)
        exact hpan (bad λh=>h.2.2 (by rw[gP]; exact c3)) _
      . simp -implicitDefEqProofs[h0,h2,h10,h11,h21,h22,h23,hal,hw,hA,hP,hpo,QA,bA,bP,c1,c2,c3,Qdc hi,hi];repeat (refine⟨by omega,?_⟩)
        refine ih (a+1) _ (by omega) (λb hb' => ?_) ?_ ?_ ?_ ?_ ?_ ?_ ?_
        rotate_left
        . simp
        . simp
        . simp[h10]
        . simp[h11]
        . simp
        . simp
        . simp[w1]
        by_cases e:b=a
        . subst e; exact⟨by rw[gA]; exact c1,by rw[gA]; exact c2,by rw[gP]; exact c3⟩
        . exact hb b (by omega)
set_option maxRecDepth 10000 in
theorem Qut (hW:Wg g) (h:TW g H c s G) {N:Nat} {K:Wr}
 (hpan:¬ Qbc g s->∀ env,K (.panic QdL) env G) (hexit:Qbc g s->∀ env,K (.exit 0) env G) :
 ∀ (m i:Nat) (env:Env),i+m=g.is.length->(∀ j,j<i->∀ a,a<g.acts j->Qcf s j a)->env.get 0=.ptr (.own (pW H g) 0 0 0 0) 0->env.get 10=i64 g.is.length->env.get 11=i64 i->LI Tryz.prog N Qb Qih env G K:=by
 have hil:=hW.gd.i;intro m
 induction m with
 |zero =>
  intro i env ha hb h0 h10 h11;refine Qc hm Qih.eq_1 ?_;have e:i=g.is.length:=by omega
  subst e;simp -implicitDefEqProofs[h10,h11];exact hexit hb _
 |succ m ih =>
  intro i env ha hb h0 h10 h11;refine Qc hm Qih.eq_1 ?_;have hi:i<g.is.length:=by omega
  have hw:=h.cw0;have hao:=oc0 h.ao;have w1:=Qw (show i<9223372036854775807 by omega);have hac:=QaV hW hi;simp -implicitDefEqProofs[h0,h10,h11,hi,hw,hao,QA,Qdc hi];repeat (refine⟨by omega,?_⟩)
  refine QvM hW h hi (x10:=i64 g.is.length) (λhn env => ?_) (λhk env g0 g10 g11 => ?_) (g.acts i) 0 _ (by omega) (λb hb=>by omega) (by simp) (by simp) (by simp[h10]) (by simp[h11]) (by simp) (by simp) (by simp)
  . exact hpan hn _
  . simp -implicitDefEqProofs[g0,g10,g11];refine ih (i+1) _ (by omega) (λj hj => ?_) ?_ ?_ ?_
    rotate_left
    . simp[g0]
    . simp[g10]
    . simp[w1]
    by_cases e:j=i
    . subst e; exact hk
    . exact hb j (by omega)
theorem ok60 (hW:Wg g) (h:TW g H c s G) :
 OkP Tryz.prog 60 [.ptr (.own (pW H g) 0 0 0 0) 0] G λout G'=>G'=G/\((Qbc g s/\out=.ret (.tup []))\/(¬ Qbc g s/\out=.pan QdL)):=by
 have hlt:=h.ltw;have hw:=h.cw0;refine Qce hm Tryz.func60 c60 (by simp[hlt]) λhcl => ?_;simp -implicitDefEqProofs[i60,r60,hw,QA];refine Qut hW h (λhn env => ?_) (λhk env => ?_) g.is.length 0 _ (by omega) (λj hj=>by omega) (by simp) (by simp) (by simp)
 . simp -implicitDefEqProofs;exact⟨_,_,⟨rfl,.inr ⟨hn,rfl⟩⟩,Qo⟩
 . simp -implicitDefEqProofs;exact⟨_,_,⟨rfl,.inl ⟨hk,rfl⟩⟩,Qo⟩
end
def shL (s:TS):Nat->TS
 |0=>s
 |k+1=>{ shL s k with S:=upA (shL s k).S k (QG (s.A k)),ord:=((QZ (s.A k)).map λ(n:Nat)=>(n:Int))++(shL s k).ord.drop (s.A k).length }
theorem Qec (s:TS):∀ k,(shL s k).A=s.A/\(shL s k).P=s.P/\(shL s k).V=s.V/\(shL s k).R=s.R/\(shL s k).O=s.O/\(shL s k).rnd=s.rnd/\(shL s k).seed=s.seed
 |0=>⟨rfl,rfl,rfl,rfl,rfl,rfl,rfl⟩
 |k+1=>Qec s k
theorem QmP (l:List Int):(QZ l).length=l.length:=by
 unfold QZ;split
 . exact Qgi _
 . simp
section
variable {g:Gm} {H G:Ws} {c:TC} {s:TS}
theorem TW.setS (h:TW g H c s G) {j:Nat} (hj:j<g.is.length) {X q:List Int} (hX:X.length=g.acts j) (hq:q.length=10):TW g H c { s with S:=upA s.S j X,ord:=q } (G2 G (pS H g j) (pW H g) ⟨Qa X,3,0,true⟩ (oI (QA g H s) q [] 73 0)):=by
 have hlt:=Qg (h.ss j hj);have hlw:=h.ltw;have hne:pS H g j≠pW H g:=by unfold pS pW; omega
 have ne:∀ {k:Nat} {x:Option AO},pS H g j≠k->pW H g≠k->G[k]? = x->(G2 G (pS H g j) (pW H g) ⟨Qa X,3,0,true⟩ (oI (QA g H s) q [] 73 0))[k]? = x:=λhn hn2 hx=>by unfold G2; rw[Vd hn2,Vd hn]; exact hx
 constructor;case l=>exact⟨h.l.A,h.l.P,λi hi=>by simp only[upA]; split; rename_i e; rw[e]; exact hX; exact h.l.S i hi,h.l.V,h.l.R,h.l.O,hq,h.l.M,h.l.F⟩
 case len=>simpa using h.len
 case cl =>
  refine Qmb h.cl (by simp) ?_;have:=h.len;simp only[oI,SV.underL_append,QA,Va];unfold pE at this;unfold pM pF pAo pPo pSo pV pR pO;refine⟨?_,by simp⟩;simp[Q5,Q6];omega
 case ss =>
  intro i hi; by_cases e:i=j
  . subst e; have:=Qgv (L:=[]) hlt hne (o:=⟨Qa X,3,0,true⟩) (p:=oI (QA g H s) q [] 73 0); rw[Vr]at this; rw[this]; simp[upA]
  . simp only[upA,Wa e]; exact ne (by unfold pS; omega) (by unfold pW pS; omega) (h.ss i hi)
 case w=>have:=Qg1 (L:=[]) hlw (a:=pS H g j) (o:=⟨Qa X,3,0,true⟩) (p:=oI (QA g H s) q [] 73 0); rw[Vr]at this; exact this
 case a=>intro i hi; exact ne (by unfold pS pA; omega) (by unfold pW pA; omega) (h.a i hi)
 case low=>intro i hi; exact ne (by unfold pS; omega) (by unfold pW; omega) (h.low i hi)
 case p=>intro i hi; exact ne (by unfold pS pP; omega) (by unfold pW pP; omega) (h.p i hi)
 case m=>exact ne (by unfold pS pM; omega) (by unfold pW pM; omega) h.m
 case f=>exact ne (by unfold pS pF; omega) (by unfold pW pF; omega) h.f
 case ao=>exact ne (by unfold pS pAo; omega) (by unfold pW pAo; omega) h.ao
 case po=>exact ne (by unfold pS pPo; omega) (by unfold pW pPo; omega) h.po
 case so=>exact ne (by unfold pS pSo; omega) (by unfold pW pSo; omega) h.so
 case v=>exact ne (by unfold pS pV; omega) (by unfold pW pV; omega) h.v
 case r=>exact ne (by unfold pS pR; omega) (by unfold pW pR; omega) h.r
 case o=>exact ne (by unfold pS pO; omega) (by unfold pW pO; omega) h.o
theorem Qmo {k a:Nat} {o p:AO} (ho:G[a]? = some o) (hp:G[k]? = some p):G2 G a k o p=G:=by
 have h1:G.set a o=G:=by
  apply Vv;intro i;by_cases e:a=i
  . subst e; rw[Vg (Qg ho),ho]
  . rw[Vd e]
 unfold G2;rw[h1];apply Vv;intro i;by_cases e:k=i
 . subst e; rw[Vg (Qg hp),hp]
 . rw[Vd e]
theorem QtM (hW:Wg g) (h:TW g H c s G) (hk:Qbc g s) {j:Nat} (hj:j<g.is.length) {A:Nat->List Int} (hA:s.A j=A j) :
 OkP Tryz.prog 31 [.own (pA H g j) 0 (g.acts j) 1 1,.own (pS H g j) 0 (g.acts j) 1 0,.own (pW H g) 13 (g.acts j) 1 0] G λout G'=>out=.ret (.tup []) /\
  TW g H c { s with S:=upA s.S j (QG (A j)),ord:=((QZ (A j)).map λ(n:Nat)=>(n:Int))++s.ord.drop (A j).length } G':=by
 have hac:=QaV hW hj;have hl:=h.l.A j hj;have hlo:=h.l.ord;have hlS:=h.l.S j hj;have hne:pS H g j≠pW H g:=by unfold pS pW; omega
 have hl2:(A j).length=g.acts j:=by rw[<-hA]; exact hl
 have hP:P2 G (pS H g j) (pW H g):=⟨Qg (h.ss j hj),h.ltw,hne⟩;have hG:G2 G (pS H g j) (pW H g) ⟨Qa (s.S j),3,0,true⟩ (oI (QA g H s) (s.ord.take (g.acts j)) (Qa (s.ord.drop (g.acts j))) 73 0)=G:=by
  refine Qmo (h.ss j hj) ?_;rw[h.w];have e:Qa s.ord++[]=Qa (s.ord.take (g.acts j))++Qa (s.ord.drop (g.acts j)):=by
   simp only[Vr,Qa,<- V8,YF]
  unfold QbQ oI;rw[e]
 have hu:=h.setS hj (X:=s.S j) (q:=s.ord) hlS hlo;have hcu:=h.len;have hC:SV.underL G.length (QA g H s)=true:=by
  simp only[QA];unfold pE at hcu;unfold pM pF pAo pPo pSo pV pR pO;simp[Q5,Q6];omega
 have hx:∀ (o p:List Int) (L:Ws),IsI (G2 G (pS H g j) (pW H g) ⟨Qa o,3,0,true⟩ (oI (QA g H s) p (Qa (s.ord.drop (g.acts j))) 73 0)++L) (.own (pA H g j) 0 (g.acts j) 1 1) (s.A j):=λo p L=>by
  have hat:(G2 G (pS H g j) (pW H g) ⟨Qa o,3,0,true⟩ (oI (QA g H s) p (Qa (s.ord.drop (g.acts j))) 73 0)++L)[pA H g j]? = some ⟨Qa (s.A j),3,1,true⟩:=by
   rw[Ve (by rw[Qgm]; exact Qg (h.a j hj))];unfold G2;rw[Vd (by unfold pW pA; omega),Vd (by unfold pS pA; omega)];exact h.a j hj
  have:=IsI.whole (H:=[]) (L:=G2 G (pS H g j) (pW H g) ⟨Qa o,3,0,true⟩ (oI (QA g H s) p (Qa (s.ord.drop (g.acts j))) 73 0)++L) (k:=pA H g j) (n:=g.acts j) hat hl.symm;simpa using this
 have hr:∀ v∈s.A j,-70368744177664<=v/\v<=70368744177664:=λv hv=>by
  obtain⟨a,ha,rfl⟩:=VH hv;have h1:=hk j hj a (by omega);have h2:(s.A j).getD a 0=(s.A j)[a]:=by simp[ha]
  unfold Qcf at h1;rw[h2]at h1;omega
 have key:=ok31 (va:=0) (v:=0) (T:=73) (D:=Qa (s.ord.drop (g.acts j))) (o0:=s.S j) (p0:=s.ord.take (g.acts j)) hP ⟨hC,by simp⟩ hx (by omega) (by omega) hr (by rw[hlS,hl]) (by rw[Zb,hl]; omega);rw[hG,hl]at key;have hX:=h.setS hj (X:=QG (A j)) (q:=((QZ (A j)).map λ(n:Nat)=>(n:Int))++s.ord.drop (A j).length) (by rw[Qfy,hl2]) (by simp[QmP,hl2]; omega);have e:oN (QA g H s) (QZ (s.A j)) (Qa (s.ord.drop (g.acts j))) 73 0=oI (QA g H s) (((QZ (A j)).map λ(n:Nat)=>(n:Int))++s.ord.drop (A j).length) [] 73 0:=by
  rw[hA,hl2];simp[oN,oI,Qa4,Qa]
 rw[e,hA]at key;exact key.toP.mono λout G' hP=>by
  obtain⟨rfl,rfl⟩:=hP;exact⟨rfl,hX⟩
end
theorem QsO {g:Gm} {s:TS} (h:Qbc g s) (k:Nat):Qbc g (shL s k):=λi hi a ha=>by
 obtain⟨h1,h2,_⟩:=Qec s k;have:=h i hi a ha;unfold Qcf at this ⊢;rw[h1,h2]; exact this
def Qck (g:Gm) (M:List Int) (S:Nat->List Int) (V:List Int):Nat->List Int
 |0=>V
 |m+1=>Qy (Qck g M S V m) (g.ns.length-1-m) (plF g (QbD g M S (Qck g M S V m) (g.ns.length-1-m)))
def Qbf (g:Gm) (own:Bool) (S:Nat->List Int) (M R:List Int):Nat->List Int
 |0=>R
 |i+1=>Qax g own S M (Qbf g own S M R i) i (match g.ns[i]? with|none=>0|some x=>x.nx.length)
def Qbt (g:Gm) (V R:List Int) (A:Nat->List Int):Nat->Nat->List Int
 |0=>A
 |i+1=>QcR g V R (Qbt g V R A i) i
section
variable {g:Gm} {H G:Ws} {c:TC} {s:TS}
set_option maxRecDepth 10000 in
theorem QtC (hW:Wg g) (hk:Qbc g s) {N:Nat} {K:Wr}
 (hexit:∀ env G,env.get 0=.ptr (.own (pW H g) 0 0 0 0) 0->TW g H c (shL s g.is.length) G->K (.exit 0) env G) :
 ∀ (m i:Nat) (env:Env) (G:Ws),i+m=g.is.length->TW g H c (shL s i) G->env.get 0=.ptr (.own (pW H g) 0 0 0 0) 0->env.get 16=.own (pSo H g) 0 g.is.length 1 0->env.get 17=i64 g.is.length->env.get 18=i64 i->LI Tryz.prog N Qb Qir env G K:=by
 have hil:=hW.gd.i;intro m
 induction m with
 |zero =>
  intro i env G hi h h0 h16 h17 h18;refine Qc hm Qir.eq_1 ?_;have e:i=g.is.length:=by omega
  subst e;simp -implicitDefEqProofs[h17,h18];exact hexit _ _ (by simp[h0]) h
 |succ m ih =>
  intro i env G hi h h0 h16 h17 h18;refine Qc hm Qir.eq_1 ?_;have hii:i<g.is.length:=by omega
  have hw:=h.cw0;have hao:=oc0 h.ao;have hso:=oc0 h.so;have hac:=QaV hW hii;have w1:=Qw (show i<9223372036854775807 by omega);have hlo:=h.l.ord;have hca:SV.cutA 1 0 (g.acts i) (.ptr (.own (pW H g) 0 0 0 0) 13)=.own (pW H g) 13 (g.acts i) 1 0:=by simp[SV.cutA]
  simp -implicitDefEqProofs[h0,h16,h17,h18,hii,hw,hao,hso,QA,Qdc hii,hca];refine⟨by omega,by omega,QbL (QtM hW h (QsO hk i) hii (A:=s.A) (by rw[(Qec s i).1])) λout G' hP => ?_⟩;obtain⟨rfl,h2⟩:=hP;have hw2:=h2.cw0;simp -implicitDefEqProofs[h0,h16,h17,h18,hii,hw2,QA];refine ih (i+1) _ _ (by omega) h2 ?_ ?_ ?_ ?_
  . simp
  . simp
  . simp
  . simp[w1]
set_option maxRecDepth 10000 in
theorem QvJ (hW:Wg g) (hc:c.Ok g) {V:List Int} {N:Nat} {K:Wr}
 (hexit:∀ env G,env.get 0=.ptr (.own (pW H g) 0 0 0 0) 0->TW g H c { s with V:=Qck g c.M s.S V g.ns.length } G->K (.exit 2) env G) :
 ∀ (m i:Nat) (env:Env) (G:Ws),i+m=g.ns.length->TW g H c { s with V:=Qck g c.M s.S V i } G->env.get 0=.ptr (.own (pW H g) 0 0 0 0) 0->env.get 4=i64 ((g.ns.length:Int)-1-i)->LI Tryz.prog N Qb QhV env G K:=by
 have hn:=hW.gd.n;intro m
 induction m with
 |zero =>
  intro i env G hi h h0 h4;refine Qc hm QhV.eq_1 ?_;have e:i=g.ns.length:=by omega
  subst e;have e2:((g.ns.length:Int)-1-g.ns.length) = -1:=by omega
  rw[e2]at h4;simp -implicitDefEqProofs[h4];exact hexit _ _ (by simp[h0]) h
 |succ m ih =>
  intro i env G hi h h0 h4;refine Qc hm QhV.eq_1 ?_;have hii:g.ns.length-1-i<g.ns.length:=by omega
  have e2:((g.ns.length:Int)-1-i)=((g.ns.length-1-i:Nat):Int):=by omega
  rw[e2]at h4;have w1:IntKind.i64.wrap (((g.ns.length-1-i:Nat):Int)-1)=(g.ns.length:Int)-1-((i+1:Nat):Int):=by rw[Qp (by omega) (by omega)]; omega
  simp -implicitDefEqProofs[h0,h4];refine QbL (ok57 hW h hc hii) λout G' hP => ?_;obtain⟨rfl,h2⟩:=hP;simp -implicitDefEqProofs[h0,h4];refine ih (i+1) _ _ (by omega) h2 ?_ ?_
  . simp
  . simp[w1]
set_option maxRecDepth 10000 in
theorem QqP (hW:Wg g) {R O:List Int} (hR:R.length=4*g.ns.length) (hO:O.length=4*g.ns.length) {N:Nat} {K:Wr}
 (hexit:∀ env G,env.get 0=.ptr (.own (pW H g) 0 0 0 0) 0->TW g H c { s with R:=Qy R 0 (Qt g.pl.toNat (λ_=>1073741824) (QD R 0)),O:=Qy O 0 (Qt g.pl.toNat (λ_=>1073741824) (QD O 0)) } G->K (.exit 4) env G) :
 ∀ (m q:Nat) (env:Env) (G:Ws),((q+m:Nat):Int)=g.pl->TW g H c { s with R:=Qy R 0 (Qt q (λ_=>1073741824) (QD R 0)),O:=Qy O 0 (Qt q (λ_=>1073741824) (QD O 0)) } G->env.get 0=.ptr (.own (pW H g) 0 0 0 0) 0->env.get 58=i64 g.pl->env.get 59=i64 q->LI Tryz.prog N Qb Qg5 env G K:=by
 have hp4:=hW.gd.p4;have hn1:=hW.gd.n1;intro m
 induction m with
 |zero =>
  intro q env G hq h h0 h58 h59;refine Qc hm Qg5.eq_1 ?_;have e:q=g.pl.toNat:=by omega
  rw[e]at h;simp -implicitDefEqProofs[h58,h59,show ¬ (q:Int)<g.pl by omega];exact hexit _ _ (by simp[h0]) h
 |succ m ih =>
  intro q env G hq h h0 h58 h59;refine Qc hm Qg5.eq_1 ?_;have hq4:q<4:=by omega
  have hqp:(q:Int)<g.pl:=by omega
  have hw:=h.cw0;have eP:=Qdg q (λ_=>(1073741824:Int)) (QD R 0);have eP2:=Qdg q (λ_=>(1073741824:Int)) (QD O 0);have lR:=Qbo hR hn1 (Qt q (λ_=>(1073741824:Int)) (QD R 0));have lO:=Qbo hO hn1 (Qt q (λ_=>(1073741824:Int)) (QD O 0));have sR:=Qil hR hn1 hq4 (Qt q (λ_=>(1073741824:Int)) (QD R 0)) 1073741824;have sO:=Qil hO hn1 hq4 (Qt q (λ_=>(1073741824:Int)) (QD O 0)) 1073741824;rw[eP,Yb,V0]at sR;rw[eP2,Yb,V0]at sO;have hR2:=oc0 h.r;have hs1:=QY h.r;have hA:=h.setR (X:=Qy R 0 (Qt (q+1) (λ_=>(1073741824:Int)) (QD R 0))) (Qbo hR hn1 _);have hs2:=QY hA.o;have hO3:=oc0 hA.o;have hB:=hA.setO (X:=Qy O 0 (Qt (q+1) (λ_=>(1073741824:Int)) (QD O 0))) (Qbo hO hn1 _);have w1:=Qw (show q<9223372036854775807 by omega);have ih2:=λ(env:Env) (G:Ws)=>ih (q+1) env G (by omega);generalize Qt (q+1) (λ_=>(1073741824:Int)) (QD R 0)=F1 at *;generalize Qt (q+1) (λ_=>(1073741824:Int)) (QD O 0)=F2 at *;generalize Qt q (λ_=>(1073741824:Int)) (QD R 0)=F3 at *;generalize Qt q (λ_=>(1073741824:Int)) (QD O 0)=F4 at *;have e3:List.take q (Qa (Qy R 0 F3))++i64 1073741824::List.drop (q+1) (Qa (Qy R 0 F3))=Qa (Qy R 0 F1):=by rw[Qar (by omega),sR]
  have e4:List.take q (Qa (Qy O 0 F4))++i64 1073741824::List.drop (q+1) (Qa (Qy O 0 F4))=Qa (Qy O 0 F2):=by rw[Qar (by omega),sO]
  simp -implicitDefEqProofs[h0,h58,h59,hqp,hw,QA,hR2,hO3,hs1,hs2,e3,e4,hq4,lR,lO];repeat (refine⟨by omega,?_⟩)
  refine ih2 _ _ hB ?_ ?_ ?_
  . simp
  . simp
  . simp[w1]
set_option maxRecDepth 10000 in
theorem Qqw (hW:Wg g) (hc:c.Ok g) {R O:List Int} {N:Nat} {K:Wr}
 (hexit:∀ env G,env.get 0=.ptr (.own (pW H g) 0 0 0 0) 0->TW g H c { s with R:=Qbf g false s.S c.M R g.ns.length,O:=Qbf g true s.S c.M O g.ns.length } G->K (.exit 6) env G) :
 ∀ (m i:Nat) (env:Env) (G:Ws),i+m=g.ns.length->TW g H c { s with R:=Qbf g false s.S c.M R i,O:=Qbf g true s.S c.M O i } G->env.get 0=.ptr (.own (pW H g) 0 0 0 0) 0->env.get 82=i64 g.ns.length->env.get 83=i64 i->LI Tryz.prog N Qb Qi0 env G K:=by
 have hn:=hW.gd.n;intro m
 induction m with
 |zero =>
  intro i env G hi h h0 h82 h83;refine Qc hm Qi0.eq_1 ?_;have e:i=g.ns.length:=by omega
  subst e;simp -implicitDefEqProofs[h82,h83];exact hexit _ _ (by simp[h0]) h
 |succ m ih =>
  intro i env G hi h h0 h82 h83;refine Qc hm Qi0.eq_1 ?_;have hii:i<g.ns.length:=by omega
  have hx:g.ns[i]? = some g.ns[i]:=Vb hii;have w1:=Qw (show i<9223372036854775807 by omega);simp -implicitDefEqProofs[h0,h82,h83,hii];refine QbL (ok58 hW hc h hii) λout G' hP => ?_;obtain⟨rfl,h2⟩:=hP;simp -implicitDefEqProofs[h0,h82,h83];have e1:∀ own X,Qbf g own s.S c.M X (i+1)=Qax g own s.S c.M (Qbf g own s.S c.M X i) i g.ns[i].nx.length:=λown X=>by simp only[Qbf,hx]
  refine ih (i+1) _ _ (by omega) (by rw[e1,e1]; exact h2) ?_ ?_ ?_
  . simp
  . simp
  . simp[w1]
set_option maxRecDepth 10000 in
theorem QqL (hW:Wg g) {A:Nat->List Int} {N:Nat} {K:Wr}
 (hexit:∀ env G,env.get 0=.ptr (.own (pW H g) 0 0 0 0) 0->TW g H c { s with A:=Qbt g s.V s.R A g.ns.length } G->K (.exit 8) env G) :
 ∀ (m i:Nat) (env:Env) (G:Ws),i+m=g.ns.length->TW g H c { s with A:=Qbt g s.V s.R A i } G->env.get 0=.ptr (.own (pW H g) 0 0 0 0) 0->env.get 95=i64 g.ns.length->env.get 96=i64 i->LI Tryz.prog N Qb Qjp env G K:=by
 have hn:=hW.gd.n;intro m
 induction m with
 |zero =>
  intro i env G hi h h0 h95 h96;refine Qc hm Qjp.eq_1 ?_;have e:i=g.ns.length:=by omega
  subst e;simp -implicitDefEqProofs[h95,h96];exact hexit _ _ (by simp[h0]) h
 |succ m ih =>
  intro i env G hi h h0 h95 h96;refine Qc hm Qjp.eq_1 ?_;have hii:i<g.ns.length:=by omega
  have w1:=Qw (show i<9223372036854775807 by omega);simp -implicitDefEqProofs[h0,h95,h96,hii];refine QbL (ok59 hW h hii) λout G' hP => ?_;obtain⟨rfl,h2⟩:=hP;simp -implicitDefEqProofs[h0,h95,h96];refine ih (i+1) _ _ (by omega) h2 ?_ ?_ ?_
  . simp
  . simp
  . simp[w1]
end
def Qgq (own share:Int):Int:=IntKind.i64.wrap ((IntKind.i64.wrap (own*share)).tdiv 65536)
def QaQ (own:Int) (P S:List Int) (a:Nat):Int:=IntKind.i64.wrap (P.getD a 0+Qgq own (S.getD a 0))
def QcK (g:Gm) (F O:List Int) (i:Nat):Int:=O.getD ((F.getD i 0).toNat*4+(g.is.getD i (0,0)).1.toNat) 0
def QbB (g:Gm) (F O:List Int) (S P:Nat->List Int):Nat->Nat->List Int
 |0=>P
 |i+1=>upA (QbB g F O S P i) i (Qe (g.acts i) (QaQ (QcK g F O i) (P i) (S i)))
theorem Qps (g:Gm) (F O:List Int) (S P:Nat->List Int) (j:Nat):∀ i,QbB g F O S P i j=if j<i then Qe (g.acts j) (QaQ (QcK g F O j) (P j) (S j))else P j
 |0=>by simp[QbB]
 |i+1=>by
  simp only[QbB,upA];by_cases e:j=i
  . subst e; simp
  . rw[Wa e,Qps g F O S P j i];by_cases h:j<i
    . rw[Wb h,Wb (by omega)]
    . rw[Wa h,Wa (by omega)]
theorem Qs6 {g:Gm} (hW:Wg g) {i:Nat} (hi:i<g.is.length):0<=g.is[i].1/\g.is[i].1<g.pl:=by
 obtain⟨t,ht,_,h2,h3,_⟩:=fn_of hW hi;have h4:=hW.ty (Vf ht) h2;obtain⟨p1,p2⟩:=Qhv hW ht h2;rw[h3,Vb hi]at h4
 cases hh:g.is[i]with
 |mk a b=>rw[hh]at h4; cases h4; exact⟨p1,p2⟩
section
variable {g:Gm} {H G:Ws} {c:TC} {s:TS}
set_option maxRecDepth 10000 in
theorem QsD (hW:Wg g) {i:Nat} (hi:i<g.is.length) {own:Int} {P:Nat->List Int} (hP:(P i).length=g.acts i) {x106 x107:SV} {N:Nat} {K:Wr}
 (hexit:∀ env G',TW g H c { s with P:=upA P i (Qe (g.acts i) (QaQ own (P i) (s.S i))) } G'->env.get 0=.ptr (.own (pW H g) 0 0 0 0) 0->env.get 106=x106->env.get 107=x107->env.get 108=i64 i->K (.exit 12) env G') :
 ∀ (m a:Nat) (env:Env) (G:Ws),a+m=g.acts i->TW g H c { s with P:=upA P i (Qe (g.acts i) (Qt a (QaQ own (P i) (s.S i)) λa=>(P i).getD a 0)) } G ->
  env.get 0=.ptr (.own (pW H g) 0 0 0 0) 0->env.get 8=i64 i->env.get 10=i64 own->env.get 106=x106->env.get 107=x107->env.get 108=i64 i->env.get 136=.own (pS H g i) 0 (g.acts i) 1 0->env.get 137=i64 (g.acts i)->env.get 138=i64 a ->
  LI Tryz.prog N Qb QgS env G K:=by
 have hac:=QaV hW hi;intro m
 induction m with
 |zero =>
  intro a env G ha h h0 h8 h10 h106 h107 h108 h136 h137 h138;refine Qc hm QgS.eq_1 ?_;have e:a=g.acts i:=by omega
  subst e;simp -implicitDefEqProofs[h137,h138];have e2:Qe (g.acts i) (Qt (g.acts i) (QaQ own (P i) (s.S i)) λa=>(P i).getD a 0)=Qe (g.acts i) (QaQ own (P i) (s.S i)):=by
   unfold Qe;apply Vt;intro x hx;simp only[VE]at hx;simp only[Qt,Wb hx]
  rw[e2]at h;exact hexit _ _ h (by simp[h0]) (by simp[h106]) (by simp[h107]) (by simp[h108])
 |succ m ih =>
  intro a env G ha h h0 h8 h10 h106 h107 h108 h136 h137 h138;refine Qc hm QgS.eq_1 ?_;have hal:a<g.acts i:=by omega
  have hw:=h.cw0;have hS:=oc0 (h.ss _ hi);have hPr:=oc0 (h.p _ hi);have hpo:=oc0 h.po;have hst:=QY (h.p _ hi);have lS:=h.l.S _ hi;have eP:=Qdg a (QaQ own (P i) (s.S i)) λa=>(P i).getD a 0;have eM:=Qfk a (QaQ own (P i) (s.S i)) λa=>(P i).getD a 0;have hP2:=h.setP hi (X:=Qe (g.acts i) (Qt (a+1) (QaQ own (P i) (s.S i)) λa=>(P i).getD a 0)) (by simp);have w1:=Qw (show a<9223372036854775807 by omega);simp only[QnT]at hPr hst;simp only[QmI]at hP2;simp only at lS hS;have bS:a<(s.S i).length:=by omega
  have ih2:=λ(env:Env) (G:Ws)=>ih (a+1) env G (by omega);have eD:QaQ own (P i) (s.S i) a=IntKind.i64.wrap ((P i).getD a 0+IntKind.i64.wrap ((IntKind.i64.wrap (own*(s.S i)[a])).tdiv 65536)):=by simp[QaQ,Qgq,bS]
  rw[<-eP]at hP2 ih2;rw[eD]at hP2 ih2;generalize Qt a (QaQ own (P i) (s.S i)) (λa=>(P i).getD a 0)=F at *;have e3:∀ y:Int,List.take a (Qa (Qe (g.acts i) F))++i64 y::List.drop (a+1) (Qa (Qe (g.acts i) F))=Qa (Qe (g.acts i) (put F a y)):=λy=>by rw[Qar (by simpa using hal),Qco]
  have e4:(Qa (Qe (g.acts i) F))[a]?.getD .any=i64 (F a):=by rw[Qbz (by simpa using hal),Qb9 hal]
  rw[<-eM]at hP2 ih2;simp -implicitDefEqProofs[h0,h8,h10,h106,h107,h108,h136,h137,h138,hal,hw,hS,hPr,hpo,QA,Qdc hi,hi,bS,hst,e3,e4,Qa2 hal];repeat (refine⟨by omega,?_⟩)
  refine ih2 _ _ hP2 ?_ ?_ ?_ ?_ ?_ ?_ ?_ ?_ ?_
  . simp
  . simp
  . simp
  . simp[h106]
  . simp[h107]
  . simp[h108]
  . simp
  . simp
  . simp[w1]
set_option maxRecDepth 10000 in
theorem Qrr (hW:Wg g) (hc:c.Ok g) {P:Nat->List Int} (hP:∀ i,i<g.is.length->(P i).length=g.acts i) {N:Nat} {K:Wr}
 (hexit:∀ env G,env.get 0=.ptr (.own (pW H g) 0 0 0 0) 0->TW g H c { s with P:=QbB g c.F s.O s.S P g.is.length } G->K (.exit 10) env G) :
 ∀ (m i:Nat) (env:Env) (G:Ws),i+m=g.is.length->TW g H c { s with P:=QbB g c.F s.O s.S P i } G->env.get 0=.ptr (.own (pW H g) 0 0 0 0) 0->env.get 106=.own (pSo H g) 0 g.is.length 1 0->env.get 107=i64 g.is.length->env.get 108=i64 i ->
  LI Tryz.prog N Qb QgO env G K:=by
 have hil:=hW.gd.i;have hn:=hW.gd.n;have hp4:=hW.gd.p4;intro m
 induction m with
 |zero =>
  intro i env G hi h h0 h106 h107 h108;refine Qc hm QgO.eq_1 ?_;have e:i=g.is.length:=by omega
  subst e;simp -implicitDefEqProofs[h107,h108];exact hexit _ _ (by simp[h0]) h
 |succ m ih =>
  intro i env G hi h h0 h106 h107 h108;refine Qc hm QgO.eq_1 ?_;have hii:i<g.is.length:=by omega
  have hac:=QaV hW hii;have hw:=h.cw0;have hso:=oc0 h.so;have ho:=oc0 h.o;have hf:=oc0 h.f;have lO:=h.l.O;have lF:=h.l.F;obtain⟨f1,f2⟩:=hc.f i hii;obtain⟨q1,q2⟩:=Qs6 hW hii;have bF:i<c.F.length:=by omega
  have gF:c.F.getD i 0=c.F[i]:=by simp[bF]
  rw[gF]at f1 f2;simp only at lO ho;have bO:c.F[i].toNat*4+g.is[i].1.toNat<s.O.length:=by omega
  have eO:QcK g c.F s.O i=s.O[c.F[i].toNat*4+g.is[i].1.toNat]:=by
   have e1:g.is.getD i (0,0)=g.is[i]:=by simp[hii]
   unfold QcK;rw[gF,e1];simp[bO]
  have w1:=Qw (show i<9223372036854775807 by omega);have hPi:QbB g c.F s.O s.S P i i=P i:=by rw[Qps]; simp
  have hst:TW g H c { s with P:=upA (QbB g c.F s.O s.S P i) i (Qe (g.acts i) (Qt 0 (QaQ (QcK g c.F s.O i) (QbB g c.F s.O s.S P i i) (s.S i)) λa=>(QbB g c.F s.O s.S P i i).getD a 0)) } G:=by
   rw[QcS,hPi,<- hP i hii,QkE,<- hPi,QgK]; exact h
  simp -implicitDefEqProofs[h0,h106,h107,h108,hii,hw,hso,ho,hf,QA,Qdc hii,QaL hii,QdG hii,QdV hii,bF,bO];repeat (refine⟨by omega,?_⟩)
  rw[<-eO];refine QsD (s:=s) (P:=QbB g c.F s.O s.S P i) hW hii (by rw[hPi]; exact hP i hii) (x106:=.own (pSo H g) 0 g.is.length 1 0) (x107:=i64 g.is.length) (λenv G' hG' g0 g106 g107 g108 => ?_) (g.acts i) 0 _ _ (by omega) hst (by simp) (by simp) (by simp) (by simp) (by simp) (by simp) (by simp) (by simp) (by simp);simp -implicitDefEqProofs[g0,g106,g107,g108];rw[hPi]at hG';refine ih (i+1) _ _ (by omega) hG' ?_ ?_ ?_ ?_
  . simp[g0]
  . simp[g106]
  . simp[g107]
  . simp[w1]
theorem TW.setN (h:TW g H c s G) (n:Int):TW g H c { s with rnd:=n } (G.set (pW H g) (QbQ g H { s with rnd:=n })):=by
 have hlt:=h.ltw;have ne:∀ {k:Nat} {x:Option AO},pW H g≠k->G[k]? = x->(G.set (pW H g) (QbQ g H { s with rnd:=n }))[k]? = x:=λhn hx=>by rw[Vd hn]; exact hx
 constructor;case l=>exact⟨h.l.A,h.l.P,h.l.S,h.l.V,h.l.R,h.l.O,h.l.ord,h.l.M,h.l.F⟩
 case len=>simpa using h.len
 case cl =>
  refine QcF h.cl _ ?_;have:=h.len;simp only[QbQ,oI,SV.underL_append,QA,Va];unfold pE at this;unfold pM pF pAo pPo pSo pV pR pO;refine⟨?_,by simp⟩;simp[Q5,Q6];omega
 case w=>rw[Vg hlt]
 case ss=>intro i hi; exact ne (by unfold pW pS; omega) (h.ss i hi)
 case a=>intro i hi; exact ne (by unfold pW pA; omega) (h.a i hi)
 case low=>intro i hi; exact ne (by unfold pW; omega) (h.low i hi)
 case p=>intro i hi; exact ne (by unfold pW pP; omega) (h.p i hi)
 case m=>exact ne (by unfold pW pM; omega) h.m
 case f=>exact ne (by unfold pW pF; omega) h.f
 case ao=>exact ne (by unfold pW pAo; omega) h.ao
 case po=>exact ne (by unfold pW pPo; omega) h.po
 case so=>exact ne (by unfold pW pSo; omega) h.so
 case v=>exact ne (by unfold pW pV; omega) h.v
 case r=>exact ne (by unfold pW pR; omega) h.r
 case o=>exact ne (by unfold pW pO; omega) h.o
def Q8 (g:Gm) (c:TC) (s:TS):TS :=
 let s1:=shL s g.is.length
 let s2:TS:={ s1 with V:=Qck g c.M s1.S s1.V g.ns.length }
 let s3:TS:={ s2 with R:=Qy s2.R 0 (Qt g.pl.toNat (λ_=>1073741824) (QD s2.R 0)),O:=Qy s2.O 0 (Qt g.pl.toNat (λ_=>1073741824) (QD s2.O 0)) }
 let s4:TS:={ s3 with R:=Qbf g false s3.S c.M s3.R g.ns.length,O:=Qbf g true s3.S c.M s3.O g.ns.length }
 let s5:TS:={ s4 with A:=Qbt g s4.V s4.R s4.A g.ns.length }
 let s6:TS:={ s5 with P:=QbB g c.F s5.O s5.S s5.P g.is.length }
 { s6 with rnd:=IntKind.i64.wrap (s6.rnd+1) }
set_option maxRecDepth 10000 in
theorem ok35 (hW:Wg g) (hc:c.Ok g) (h:TW g H c s G) (hk:Qbc g s) :
 OkP Tryz.prog 35 [.ptr (.own (pW H g) 0 0 0 0) 0] G λout G'=>TW g H c (Q8 g c s) G'/\((Qbc g (Q8 g c s)/\out=.ret (.tup []))\/(¬ Qbc g (Q8 g c s)/\out=.pan QdL)):=by
 have hlt:=h.ltw;have hw:=h.cw0;have hn:=hW.gd.n;have hn1:=hW.gd.n1;have hp1:=hW.gd.p1;refine Qce hm Tryz.func35 c35 (by simp[hlt]) λhcl => ?_;unfold Q8;simp -implicitDefEqProofs[i35,r35,hw,QA];refine QtC (s:=s) hW hk (λenv G1 g0 h1 => ?_) g.is.length 0 _ _ (by omega) h (by simp) (by simp) (by simp) (by simp);generalize shL s g.is.length=s1 at *;have hw1:=h1.cw0;have w1:IntKind.i64.wrap ((g.ns.length:Int)-1)=(g.ns.length:Int)-1-(0:Nat):=by rw[Qp (by omega) (by omega)]; omega
 simp -implicitDefEqProofs[g0,hw1,QA];refine QvJ (s:=s1) (V:=s1.V) hW hc (λenv G2 g0 h2 => ?_) g.ns.length 0 _ _ (by omega) h1 (by simp[g0]) (by simp[w1]);generalize Qck g c.M s1.S s1.V g.ns.length=V1 at *;have hw2:=h2.cw0;simp -implicitDefEqProofs[g0,hw2,QA];have h20:TW g H c { s1 with V:=V1,R:=Qy s1.R 0 (Qt 0 (λ_=>1073741824) (QD s1.R 0)),O:=Qy s1.O 0 (Qt 0 (λ_=>1073741824) (QD s1.O 0)) } G2:=by
  rw[QcS,QcS];have e:∀ X:List Int,X.length=4*g.ns.length->Qy X 0 (QD X 0)=X:=λX hX=>by
   have e1:Qe 4 (QD X 0)=X.take 4:=by
    apply Vv;intro q;by_cases hq:q<4
    . rw[Vb (by simpa using hq),Qa2 hq,YV hq,Vb (by omega)];simp[QD,show q<X.length by omega]
    . rw[Vl (by simp; omega),Vl (by simp; omega)]
   unfold Qy;rw[e1]; simp
  rw[e _ h2.l.R,e _ h2.l.O];exact h2
 refine QqP (s:={ s1 with V:=V1 }) (R:=s1.R) (O:=s1.O) hW h2.l.R h2.l.O (λenv G3 g0 h3 => ?_) g.pl.toNat 0 _ _ (by omega) h20 (by simp[g0]) (by simp) (by simp);generalize Qy s1.R 0 (Qt g.pl.toNat (λ_=>1073741824) (QD s1.R 0))=R3 at *;generalize Qy s1.O 0 (Qt g.pl.toNat (λ_=>1073741824) (QD s1.O 0))=O3 at *;have hw3:=h3.cw0;simp -implicitDefEqProofs[g0,hw3,QA];refine Qqw (s:={ s1 with V:=V1 }) (R:=R3) (O:=O3) hW hc (λenv G4 g0 h4 => ?_) g.ns.length 0 _ _ (by omega) h3 (by simp[g0]) (by simp) (by simp);simp only at h4;generalize Qbf g false s1.S c.M R3 g.ns.length=R4 at *;generalize Qbf g true s1.S c.M O3 g.ns.length=O4 at *;have hw4:=h4.cw0;simp -implicitDefEqProofs[g0,hw4,QA];refine QqL (s:={ s1 with V:=V1,R:=R4,O:=O4 }) (A:=s1.A) hW (λenv G5 g0 h5 => ?_) g.ns.length 0 _ _ (by omega) h4 (by simp[g0]) (by simp) (by simp);simp only at h5;generalize Qbt g V1 R4 s1.A g.ns.length=A5 at *;have hw5:=h5.cw0;simp -implicitDefEqProofs[g0,hw5,QA];refine Qrr (s:={ s1 with V:=V1,R:=R4,O:=O4,A:=A5 }) (P:=s1.P) hW hc h5.l.P (λenv G6 g0 h6 => ?_) g.is.length 0 _ _ (by omega) h5 (by simp[g0]) (by simp) (by simp) (by simp);simp only at h6;generalize QbB g c.F O4 s1.S s1.P g.is.length=P6 at *;have hw6:=h6.cw0;have hst:=QY h6.w;have h7:=h6.setN (IntKind.i64.wrap (s1.rnd+1));simp only[QbQ,QA]at hst;simp -implicitDefEqProofs[g0,hw6,QA,hst,oI]
 refine QbL (OkP.cast rfl (by simp[QbQ,oI,QA]) (ok60 hW h7)) λout G' hP => ?_;obtain⟨rfl,hP|hP⟩:=hP
 . obtain⟨hk2,rfl⟩:=hP;simp -implicitDefEqProofs;exact⟨_,_,⟨h7,.inl ⟨hk2,rfl⟩⟩,Qo⟩
 . obtain⟨hk2,rfl⟩:=hP;simp -implicitDefEqProofs;exact⟨_,_,⟨h7,.inr ⟨hk2,rfl⟩⟩,Qo⟩
end
def Q0 (v:Nat) (l:List Int):AO:=⟨Qa l,3,v,true⟩
section
variable {H:Ws}
theorem ok56 {l:List Int} (h0:l≠[]) (hl:l.length<=1000000):Ok Tryz.prog 56 [sl l] H (.ret (.own H.length 0 l.length 1 1)) (H++[Q0 1 l]):=by
 have hl0:l.length≠0:=λh=>h0 (Vx h);refine Ql hm Tryz.func56 c56 (by simp[sl]) λhcl => ?_;simp -implicitDefEqProofs[i56,r56,sl,hl0];exact⟨by omega,by omega,Qo⟩
def Qbm (h I i:Nat) (n:Nat->Nat):Wt:=(List.range I).map λj=>if j<i then .own (h+1+j) 0 (n j) 1 1 else .val (.slice none 0 0)
theorem Qss {h I i:Nat} {n:Nat->Nat} (hi:i<I):List.take i (Qbm h I i n)++SV.own (h+1+i) 0 (n i) 1 1::List.drop (i+1) (Qbm h I i n)=Qbm h I (i+1) n:=by
 have hl:i<(Qbm h I i n).length:=by simp[Qbm,hi]
 have:=YA (l:=Qbm h I i n) (i:=i) (a:=SV.own (h+1+i) 0 (n i) 1 1);rw[Wb hl]at this;rw[<-this];apply Vv;intro j;by_cases e:i=j
 . subst e; rw[Vg hl]; simp[Qbm,hi]
 . rw[Vd e];by_cases hj:j<I
   . have:(j<i)=(j<i+1):=by simp; omega
     simp[Qbm,hj,this]
   . rw[Vl (by simp[Qbm]; omega),Vl (by simp[Qbm]; omega)]
@[simp] theorem QyV {h I i:Nat} {n:Nat->Nat}:(Qbm h I i n).length=I:=by simp[Qbm]
def Qag (L:List (List Int)) (i:Nat):Nat:=(L.getD i []).length
theorem Qd3 {L:List (List Int)} {i:Nat} (h:i<L.length):Qag L i=L[i].length:=by simp[Qag,h]
def sls (L:List (List Int)):Wt:=L.map sl
@[simp] theorem Qzu (L:List (List Int)):(sls L).length=L.length:=by simp[sls]
theorem QaE {L:List (List Int)} {i:Nat} (h:i<L.length):(sls L)[i]'(by simpa using h)=sl L[i]:=by simp[sls]
theorem Q3 (n:Nat) (L:List (List Int)):SV.underL n (sls L)=true:=by
 rw[SV.underL_iff];intro x hx;simp only[sls,Vj]at hx;obtain⟨l,_,rfl⟩:=hx;simp[sl]
set_option maxRecDepth 10000 in
theorem Qu6 {L:List (List Int)} (hL:∀ l∈L,l≠[]/\l.length<=1000000) (hL2:L.length<=1000000) {N:Nat} {K:Wr}
 (hexit:∀ env,env.get 3=.own H.length 0 L.length 1 0->K (.exit 0) env (H++⟨Qbm H.length L.length L.length (Qag L),45,0,true⟩::L.map (Q0 1))) :
 ∀ (m i:Nat) (env:Env),i+m=L.length->env.get 3=.own H.length 0 L.length 1 0->env.get 9=.slc (sls L) L.length->env.get 10=i64 L.length->env.get 11=i64 i ->
  LI Tryz.prog N Qb Qik env (H++⟨Qbm H.length L.length i (Qag L),45,0,true⟩::(L.map (Q0 1)).take i) K:=by
 intro m
 induction m with
 |zero =>
  intro i env hi h3 h9 h10 h11;refine Qc hm Qik.eq_1 ?_;have e:i=L.length:=by omega
  subst e;have e0:(L.map (Q0 1)).take L.length=L.map (Q0 1):=VA (by simp);rw[e0];simp -implicitDefEqProofs[h10,h11];exact hexit _ (by simp[h3])
 |succ m ih =>
  intro i env hi h3 h9 h10 h11;refine Qc hm Qik.eq_1 ?_;have hii:i<L.length:=by omega
  obtain⟨n1,n2⟩:=hL _ (Vf hii);have w1:=Qw (show i<9223372036854775807 by omega);have hg:L.getD i []=L[i]:=by simp[hii]
  have es:=Qss (h:=H.length) (I:=L.length) (n:=Qag L) hii;rw[Qd3 hii]at es;have et:(L.map (Q0 1)).take (i+1)=(L.map (Q0 1)).take i++[Q0 1 L[i]]:=by rw[YK (by simpa using hii)]; simp
  have em:min i L.length=i:=by omega
  have ep:H.length+(i+1)=H.length+1+i:=by omega
  simp -implicitDefEqProofs[h3,h9,h10,h11,hii,QaE hii];refine⟨by omega,Qh (ok56 n1 n2) ?_⟩;simp -implicitDefEqProofs[h3,h9,h10,h11,hii,em];refine⟨by omega,?_⟩;rw[ep,es,<- et];refine ih (i+1) _ (by omega) ?_ ?_ ?_ ?_
  . simp
  . simp
  . simp
  . simp[w1]
theorem Quq (h I:Nat) (n:Nat->Nat):Qbm h I I n=Qx I (λi=>h+1+i) n 1:=by
 unfold Qbm Qx;apply Vt;intro j hj;simp only[VE]at hj;rw[Wb hj]
set_option maxRecDepth 10000 in
theorem ok34 {L:List (List Int)} (hL:∀ l∈L,l≠[]/\l.length<=1000000) (hL2:L.length<=1000000) :
 Ok Tryz.prog 34 [.slc (sls L) L.length] H (.ret (.own H.length 0 L.length 1 0)) (H++⟨Qx L.length (λi=>H.length+1+i) (Qag L) 1,45,0,true⟩::L.map (Q0 1)):=by
 refine Ql hm Tryz.func34 c34 (by simp[Q3]) λhcl => ?_;simp -implicitDefEqProofs[i34,r34];refine⟨by omega,by omega,?_⟩;have e:List.replicate L.length (SV.val (.slice none 0 0))=Qbm H.length L.length 0 (Qag L):=by simp[Qbm,Y8]
 rw[e];refine Qu6 hL hL2 (λenv g3 => ?_) L.length 0 _ (by omega) (by simp) (by simp) (by simp) (by simp);simp -implicitDefEqProofs[g3];rw[Quq];exact Qo
end
def QbV (p:Nat->Nat) (n:Nat->Nat) (ver I i:Nat):Wt:=(List.range I).map λj=>if j<i then .own (p j) 0 (n j) 1 ver else .val (.slice none 0 0)
@[simp] theorem QwA {p n:Nat->Nat} {ver I i:Nat}:(QbV p n ver I i).length=I:=by simp[QbV]
theorem QvZ {p n:Nat->Nat} {ver I i:Nat} (hi:i<I):List.take i (QbV p n ver I i)++SV.own (p i) 0 (n i) 1 ver::List.drop (i+1) (QbV p n ver I i)=QbV p n ver I (i+1):=by
 have hl:i<(QbV p n ver I i).length:=by simp[hi]
 have:=YA (l:=QbV p n ver I i) (i:=i) (a:=SV.own (p i) 0 (n i) 1 ver);rw[Wb hl]at this;rw[<-this];apply Vv;intro j;by_cases e:i=j
 . subst e; rw[Vg hl]; simp[QbV,hi]
 . rw[Vd e];by_cases hj:j<I
   . have:(j<i)=(j<i+1):=by simp; omega
     simp[QbV,hj,this]
   . rw[Vl (by simp; omega),Vl (by simp; omega)]
theorem QuM (p n:Nat->Nat) (ver I:Nat):QbV p n ver I 0=List.replicate I (.val (.slice none 0 0)):=by simp[QbV,Y8]
theorem Qrx (p n:Nat->Nat) (ver I:Nat):QbV p n ver I I=Qx I p n ver:=by
 unfold QbV Qx;apply Vt;intro j hj;simp only[VE]at hj;rw[Wb hj]
def Qv (n:Nat):List Int:=List.replicate n 0
@[simp] theorem QwX (n:Nat):(Qv n).length=n:=by simp[Qv]
def QaK (g:Gm):Nat->Ws
 |0=>[]
 |k+1=>QaK g k++[⟨[i64 (g.is.getD k (0,0)).1,i64 (g.is.getD k (0,0)).2],55,0,true⟩,Q0 0 (Qv (g.acts k))]
theorem Qes (g:Gm):∀ k,(QaK g k).length=2*k
 |0=>rfl
 |k+1=>by simp[QaK,Qes g k]; omega
section
variable {H:Ws} {g:Gm}
def pB (h i:Nat):Nat:=h+3+2*i
set_option maxRecDepth 10000 in
theorem QrG (hW:Wg g) {N:Nat} {K:Wr}
 (hexit:∀ env,env.get 3=.own (H.length+1) 0 g.is.length 1 0->K (.exit 0) env (H++Qd g::⟨QbV (pB H.length) g.acts 0 g.is.length g.is.length,45,0,true⟩::QaK g g.is.length)) :
 ∀ (m i:Nat) (env:Env),i+m=g.is.length->env.get 3=.own (H.length+1) 0 g.is.length 1 0->env.get 11=.slc (Qu g.is) g.is.length->env.get 12=i64 g.is.length->env.get 13=i64 i ->
  LI Tryz.prog N Qb QgH env (H++Qd g::⟨QbV (pB H.length) g.acts 0 g.is.length i,45,0,true⟩::QaK g i) K:=by
 have hil:=hW.gd.i;intro m
 induction m with
 |zero =>
  intro i env hi h3 h11 h12 h13;refine Qc hm QgH.eq_1 ?_;have e:i=g.is.length:=by omega
  subst e;simp -implicitDefEqProofs[h12,h13];exact hexit _ (by simp[h3])
 |succ m ih =>
  intro i env hi h3 h11 h12 h13;refine Qc hm QgH.eq_1 ?_;have hii:i<g.is.length:=by omega
  obtain⟨n1,n2⟩:=QaV hW hii;have hg:g.is.getD i (0,0)=g.is[i]:=by simp[hii]
  have ha:(g.acts i:Int)=g.is[i].2:=by unfold Gm.acts; rw[hg]; unfold Gm.acts at n1; rw[hg]at n1; omega
  have w1:=Qw (show i<9223372036854775807 by omega);have es:=QvZ (p:=pB H.length) (n:=g.acts) (ver:=0) (I:=g.is.length) hii;have eb:QaK g (i+1)=QaK g i++[⟨[i64 g.is[i].1,i64 g.is[i].2],55,0,true⟩,Q0 0 (Qv (g.acts i))]:=by simp only[QaK,hg]
  have hMl:=Qes g i;rw[<-ha]at eb;have ih2:=ih (i+1);rw[eb]at ih2;generalize QaK g i=M at *;simp -implicitDefEqProofs[h3,h11,h12,h13,hii,QaL hii,QdG hii,QdV hii,<- ha];repeat (refine⟨by omega,?_⟩)
  have e1:H.length+(M.length+3)=pB H.length i:=by unfold pB; omega
  have e2:List.replicate (g.acts i) (i64 0)=Qa (Qv (g.acts i)):=by simp[Qa,Qv]
  rw[e1,es,e2];refine ih2 _ (by omega) ?_ ?_ ?_ ?_
  . simp
  . simp
  . simp
  . simp[w1]
theorem QjT (hW:Wg g):Ok Tryz.prog 30 [.agg g.cells] H (.ret (.own (H.length+1) 0 g.is.length 1 0)) (H++Qd g::⟨Qx g.is.length (pB H.length) g.acts 0,45,0,true⟩::QaK g g.is.length):=by
 have hil:=hW.gd.i;refine Ql hm Tryz.func30 c30 (by simp[Gm.cells,Q5,Q6]) λhcl => ?_;simp -implicitDefEqProofs[i30,r30,Gm.cells];refine⟨by omega,by omega,?_⟩;rw[<-QuM (pB H.length) g.acts 0];refine QrG hW (λenv g3 => ?_) g.is.length 0 _ (by omega) (by simp) (by simp) (by simp) (by simp);simp -implicitDefEqProofs[g3];rw[Qrx];exact Qo
end
@[simp ↓] theorem QxJ (n:Nat) (f:Od) (l:List Od):(E.calln f l).rs n=.calln f l:=rfl
@[simp ↓] theorem QrR (n:Nat) (ws:List Nat) (k:Nat) (p x:Od):(E.stw ws k p x).rs n=.stw ws k p x:=rfl
section
variable {g:Gm} {H G:Ws} {c:TC} {s:TS}
theorem TW.setM (h:TW g H c s G) {X:List Int} (hV:X.length=g.ns.length):TW g H { c with M:=X } s (G.set (pM H g) ⟨Qa X,3,1,true⟩):=by
 have hlt:=Qg h.m;have ne:∀ {j:Nat} {x:Option AO},pM H g≠j->G[j]? = x->(G.set (pM H g) ⟨Qa X,3,1,true⟩)[j]? = x:=λhn hx=>by rw[Vd hn]; exact hx
 constructor;case l=>exact⟨h.l.A,h.l.P,h.l.S,h.l.V,h.l.R,h.l.O,h.l.ord,hV,h.l.F⟩
 case len=>simpa using h.len
 case cl=>exact QcF h.cl _ (by simp)
 case m=>rw[Vg hlt]
 case low=>intro i hi; exact ne (by unfold pM; omega) (h.low i hi)
 case a=>intro i hi; exact ne (by unfold pM pA; omega) (h.a i hi)
 case p=>intro i hi; exact ne (by unfold pM pP; omega) (h.p i hi)
 case ss=>intro i hi; exact ne (by unfold pM pS; omega) (h.ss i hi)
 case w=>exact ne (by unfold pM pW; omega) h.w
 case v=>exact ne (by unfold pM pV; omega) h.v
 case f=>exact ne (by unfold pM pF; omega) h.f
 case ao=>exact ne (by unfold pM pAo; omega) h.ao
 case po=>exact ne (by unfold pM pPo; omega) h.po
 case so=>exact ne (by unfold pM pSo; omega) h.so
 case r=>exact ne (by unfold pM pR; omega) h.r
 case o=>exact ne (by unfold pM pO; omega) h.o
theorem TW.setF (h:TW g H c s G) {X:List Int} (hV:X.length=g.is.length):TW g H { c with F:=X } s (G.set (pF H g) ⟨Qa X,3,1,true⟩):=by
 have hlt:=Qg h.f;have ne:∀ {j:Nat} {x:Option AO},pF H g≠j->G[j]? = x->(G.set (pF H g) ⟨Qa X,3,1,true⟩)[j]? = x:=λhn hx=>by rw[Vd hn]; exact hx
 constructor;case l=>exact⟨h.l.A,h.l.P,h.l.S,h.l.V,h.l.R,h.l.O,h.l.ord,h.l.M,hV⟩
 case len=>simpa using h.len
 case cl=>exact QcF h.cl _ (by simp)
 case f=>rw[Vg hlt]
 case low=>intro i hi; exact ne (by unfold pF; omega) (h.low i hi)
 case a=>intro i hi; exact ne (by unfold pF pA; omega) (h.a i hi)
 case p=>intro i hi; exact ne (by unfold pF pP; omega) (h.p i hi)
 case ss=>intro i hi; exact ne (by unfold pF pS; omega) (h.ss i hi)
 case w=>exact ne (by unfold pF pW; omega) h.w
 case m=>exact ne (by unfold pF pM; omega) h.m
 case v=>exact ne (by unfold pF pV; omega) h.v
 case ao=>exact ne (by unfold pF pAo; omega) h.ao
 case po=>exact ne (by unfold pF pPo; omega) h.po
 case so=>exact ne (by unfold pF pSo; omega) h.so
 case r=>exact ne (by unfold pF pR; omega) h.r
 case o=>exact ne (by unfold pF pO; omega) h.o
end
def wsK (ws:List Int):Nat->Int
 |0=>0
 |k+1=>IntKind.i64.wrap (wsK ws k+ws.getD k 0)
def QaM (ws:List Int):Int:=wsK ws ws.length
theorem Qfr {ws:List Int} (h:∀ w∈ws,1<=w/\w<=1000) (hl:ws.length<=60):∀ k,k<=ws.length->(k:Int)<=wsK ws k/\wsK ws k<=1000*k
 |0,_=>by simp[wsK]
 |k+1,hk=>by
  have h1:=Qfr h hl k (by omega);have h2:=h _ (Vf (show k<ws.length by omega));have h3:ws.getD k 0=ws[k]:=by simp[show k<ws.length by omega]
  simp only[wsK,h3];rw[Qp (by omega) (by omega)];omega
def wtF (g:Gm) (i:Nat):Int:=match g.ns[i]? with
 |none=>0
 |some x=>QaM x.ws
def wtM (g:Gm) (j:Nat) (i:Nat):Int:=if j<=i then wtF g i else 0
def fsL (g:Gm):Nat->List Int
 |0=>Qv g.is.length
 |m+1=>match g.ns[g.ns.length-1-m]? with
  |none=>fsL g m
  |some x=>if x.k=2 then(fsL g m).set x.i.toNat ((g.ns.length-1-m:Nat):Int)else fsL g m
@[simp] theorem Qhs (g:Gm):∀ m,(fsL g m).length=g.is.length
 |0=>by simp[fsL]
 |m+1=>by
  simp only[fsL];split
  . exact Qhs g m
  . split
    . simp[Qhs g m]
    . exact Qhs g m
theorem Qkd {g:Gm} {i t:Nat} (hi:i<g.is.length) (ht:t<g.ns.length) (h2:g.ns[t].k=2) (h3:g.ns[t].i.toNat=i) (h4:∀ u (hu:u<t),¬ (g.ns[u].k=2/\g.ns[u].i.toNat=i)) :
 ∀ m,m<=g.ns.length->g.ns.length-m<=t->(fsL g m).getD i 0=t
 |0,hm,hg=>by omega
 |m+1,hm,hg=>by
  have hx:g.ns[g.ns.length-1-m]? = some (g.ns[g.ns.length-1-m]'(by omega)):=Vb (by omega);simp only[fsL,hx];by_cases e:g.ns.length-1-m=t
  . subst e;rw[Wb h2,h3];simp[hi]
  . have ih:=Qkd hi ht h2 h3 h4 m (by omega);by_cases e2:g.ns.length-m<=t
    . split
      . rename_i hk;have hne:¬ (g.ns[g.ns.length-1-m]'(by omega)).i.toNat=i:=λhh=>h4 (g.ns.length-1-m) (by omega) ⟨hk,hh⟩;have:=ih e2;simp only[Vp]at this ⊢;rw[Vd hne]; exact this
      . exact ih e2
    . omega
def cTC (g:Gm):TC:=⟨Qe g.ns.length (wtF g),fsL g g.ns.length⟩
theorem QmV {g:Gm} (hW:Wg g):(cTC g).Ok g where
 m:=λi hi hk=>by
  obtain⟨a1,a2,a3,a4⟩:=Qd0 hW hi hk;have hx:g.ns[i]? = some g.ns[i]:=Vb hi;simp only[cTC];rw[Qb9 hi];simp only[wtF,hx,QaM];have:=Qfr a4 (by omega) g.ns[i].ws.length (Vc _);omega
 f:=λi hi=>by
  obtain⟨t,ht,_,h2,h3,h4⟩:=fn_of hW hi;have:=Qkd hi ht h2 h3 h4 g.ns.length (Vc _) (by omega);simp only[cTC];rw[this]; omega
def pGb (H:Ws) (g:Gm):Nat:=H.length+2+2*g.is.length
theorem Qwt (f:Nat->Int) (i:Nat) (x y:Int):put (put f i x) i y=put f i y:=by funext k; unfold put; split<;>rfl
theorem QpW (f:Nat->Int) (i:Nat):put f i (f i)=f:=by funext k; unfold put; split; rename_i e; rw[e]; rfl
theorem QsX (g:Gm) (i:Nat):put (wtM g (i+1)) i (wtF g i)=wtM g i:=by
 funext k;unfold put wtM;by_cases e:k=i
 . subst e; simp
 . rw[Wa e];by_cases h:i<=k
   . rw[Wb h,Wb (by omega)]
   . rw[Wa h,Wa (by omega)]
section
variable {g:Gm} {H G:Ws} {c:TC} {s:TS}
theorem Qmi (h:TW g H c s G) (hb:G[pGb H g]? = some (Qd g)) {p:Nat} (hp:p≠pGb H g) (o:AO):(G.set p o)[pGb H g]? = some (Qd g):=by rw[Vd hp]; exact hb
set_option maxRecDepth 10000 in
theorem QsP (hW:Wg g) {i:Nat} (hi:i<g.ns.length) {f:Nat->Int} {F:List Int} {N:Nat} {K:Wr}
 (hexit:∀ env G,env.get 2=.ptr (.own (pGb H g) 0 0 0 0) 0->env.get 6=.ptr (.own (pW H g) 0 0 0 0) 0->env.get 7=i64 i->TW g H ⟨Qe g.ns.length (put f i (QaM g.ns[i].ws)),F⟩ s G->G[pGb H g]? = some (Qd g)->K (.exit 2) env G) :
 ∀ (m k:Nat) (env:Env) (G:Ws),k+m=g.ns[i].ws.length->TW g H ⟨Qe g.ns.length (put f i (wsK g.ns[i].ws k)),F⟩ s G->G[pGb H g]? = some (Qd g) ->
  env.get 2=.ptr (.own (pGb H g) 0 0 0 0) 0->env.get 6=.ptr (.own (pW H g) 0 0 0 0) 0->env.get 7=i64 i->env.get 51=.slc (Qa g.ns[i].ws) g.ns[i].ws.length->env.get 52=i64 g.ns[i].ws.length->env.get 53=i64 k->g.ns[i].ws.length<=60 ->
  LI Tryz.prog N Qb Qi9 env G K:=by
 intro m
 induction m with
 |zero =>
  intro k env G hk h hb h2 h6 h7 h51 h52 h53 hl;refine Qc hm Qi9.eq_1 ?_;have e:k=g.ns[i].ws.length:=by omega
  subst e;simp -implicitDefEqProofs[h52,h53];exact hexit _ _ (by simp[h2]) (by simp[h6]) (by simp[h7]) h hb
 |succ m ih =>
  intro k env G hk h hb h2 h6 h7 h51 h52 h53 hl;refine Qc hm Qi9.eq_1 ?_;have hkl:k<g.ns[i].ws.length:=by omega
  have hw:=h.cw0;have hM:=oc0 h.m;have hst:=QY h.m;have w1:=Qw (show k<9223372036854775807 by omega);have eK:wsK g.ns[i].ws (k+1)=IntKind.i64.wrap (wsK g.ns[i].ws k+g.ns[i].ws[k]):=by simp[wsK,hkl]
  have h5:=h.setM (X:=Qe g.ns.length (put f i (wsK g.ns[i].ws (k+1)))) (by simp);have hb5:=Qmi h hb (p:=pM H g) (by unfold pM pGb; omega) ⟨Qa (Qe g.ns.length (put f i (wsK g.ns[i].ws (k+1)))),3,1,true⟩;have ea:(put f i (wsK g.ns[i].ws k)) i=wsK g.ns[i].ws k:=by simp[put]
  have e4:(Qa (Qe g.ns.length (put f i (wsK g.ns[i].ws k))))[i]?.getD .any=i64 (wsK g.ns[i].ws k):=by rw[Qbz (by simpa using hi),Qb9 hi,ea]
  have e3:∀ y:Int,List.take i (Qa (Qe g.ns.length (put f i (wsK g.ns[i].ws k))))++i64 y::List.drop (i+1) (Qa (Qe g.ns.length (put f i (wsK g.ns[i].ws k))))=Qa (Qe g.ns.length (put f i y)):=λy=>by rw[Qar (by simpa using hi),Qco,Qwt]
  have e5:(Qe g.ns.length (put f i (wsK g.ns[i].ws k)))[i]'(by simpa using hi)=wsK g.ns[i].ws k:=by rw[Qa2 hi,ea]
  rw[eK]at h5 hb5;simp -implicitDefEqProofs[h2,h6,h7,h51,h52,h53,hkl,hw,QA,hM,hi,hst,e3,e4,e5];repeat (refine⟨by omega,?_⟩)
  refine ih (k+1) _ _ (by omega) (by rw[eK]; exact h5) hb5 ?_ ?_ ?_ ?_ ?_ ?_ hl
  . simp[h2]
  . simp
  . simp
  . simp
  . simp
  . simp[w1]
set_option maxRecDepth 10000 in
theorem Qsi (hW:Wg g) {N:Nat} {K:Wr}
 (hexit:∀ env G,env.get 6=.ptr (.own (pW H g) 0 0 0 0) 0->TW g H (cTC g) s G->K (.exit 0) env G) :
 ∀ (m:Nat) (env:Env) (G:Ws),m<=g.ns.length->TW g H ⟨Qe g.ns.length (wtM g m),fsL g (g.ns.length-m)⟩ s G->G[pGb H g]? = some (Qd g) ->
  env.get 2=.ptr (.own (pGb H g) 0 0 0 0) 0->env.get 6=.ptr (.own (pW H g) 0 0 0 0) 0->env.get 7=i64 ((m:Int)-1) ->
  LI Tryz.prog N Qb Qje env G K:=by
 have hn:=hW.gd.n;intro m
 induction m with
 |zero =>
  intro env G hm' h hb h2 h6 h7;refine Qc hm Qje.eq_1 ?_;have e:((0:Nat):Int)-1 = -1:=by omega
  rw[e]at h7;simp -implicitDefEqProofs[h7];refine hexit _ _ (by simp[h6]) ?_;have e2:wtM g 0=wtF g:=by funext k; simp[wtM]
  rw[e2,Nat.sub_zero]at h;exact h
 |succ i ih =>
  intro env G hm' h hb h2 h6 h7;refine Qc hm Qje.eq_1 ?_;have hi:i<g.ns.length:=by omega
  have hx:g.ns[i]? = some g.ns[i]:=Vb hi;have e:((i+1:Nat):Int)-1=(i:Int):=by omega
  rw[e]at h7;have hgb:Qf G (pGb H g) 0=[i64 g.pl,.slc (nds g.ns) g.ns.length,.slc (Qu g.is) g.is.length]:=oc0 (T:=26) hb;have hws:g.ns[i].ws.length<=60:=by
   rcases QdR hW hi with hk|hk|hk
   . have:=Qd0 hW hi hk; omega
   . have h3:=hW.gd.e _ (Vf hi);unfold Nd.err Nd.move at h3;rw[Wa (by omega),Wa (by omega),Wb hk]at h3;split at h3
     . omega
     . omega
   . have h3:=hW.gd.e _ (Vf hi);unfold Nd.err Nd.end at h3;rw[Wa (by omega),Wa (by omega),Wa (by omega)]at h3;split at h3
     . omega
     . omega
  have h0:TW g H ⟨Qe g.ns.length (put (wtM g (i+1)) i (wsK g.ns[i].ws 0)),fsL g (g.ns.length-(i+1))⟩ s G:=by
   have e0:put (wtM g (i+1)) i (wsK g.ns[i].ws 0)=wtM g (i+1):=by
    have:wsK g.ns[i].ws 0=wtM g (i+1) i:=by simp only[wsK,wtM]; rw[Wa (by omega)]
    rw[this,QpW]
   rw[e0]; exact h
  have w1:IntKind.i64.wrap ((i:Int)-1)=(i:Int)-1:=Qp (by omega) (by omega);simp -implicitDefEqProofs[h2,h6,h7,hgb,hi,nd4 hi,Qam];repeat (refine⟨by omega,?_⟩)
  refine QsP (H:=H) (s:=s) hW hi (λenv G1 g2 g6 g7 h1 hb1 => ?_) g.ns[i].ws.length 0 _ _ (by omega) h0 hb (by simp[h2]) (by simp[h6]) (by simp[h7]) (by simp) (by simp) (by simp) hws;have eW:put (wtM g (i+1)) i (QaM g.ns[i].ws)=wtM g i:=by
   have:QaM g.ns[i].ws=wtF g i:=by simp only[wtF,hx]
   rw[this,QsX]
  rw[eW]at h1;have hgb1:Qf G1 (pGb H g) 0=[i64 g.pl,.slc (nds g.ns) g.ns.length,.slc (Qu g.is) g.is.length]:=oc0 (T:=26) hb1;have hw1:=h1.cw0;have efs:g.ns.length-i=(g.ns.length-(i+1))+1:=by omega
  have efi:g.ns.length-1-(g.ns.length-(i+1))=i:=by omega
  have hx2:g.ns[g.ns.length-1-(g.ns.length-(i+1))]? = some g.ns[i]:=by rw[efi]; exact hx
  by_cases hk:g.ns[i].k=2
  . obtain⟨a1,a2,a3,a4,a5⟩:=QbE hW hi hk;have eF:fsL g (g.ns.length-i)=(fsL g (g.ns.length-(i+1))).set g.ns[i].i.toNat (i:Int):=by
     rw[efs]; simp only[fsL,hx2]; rw[Wb hk,efi]
    have hF:=oc0 h1.f;have hst:=QY h1.f;have h5:=h1.setF (X:=fsL g (g.ns.length-i)) (by simp);have hb5:=Qmi h1 hb1 (p:=pF H g) (by unfold pF pGb; omega) ⟨Qa (fsL g (g.ns.length-i)),3,1,true⟩;have e3:List.take g.ns[i].i.toNat (Qa (fsL g (g.ns.length-(i+1))))++i64 (i:Int)::List.drop (g.ns[i].i.toNat+1) (Qa (fsL g (g.ns.length-(i+1))))=Qa (fsL g (g.ns.length-i)):=by rw[Qar (by rw[Qhs]; exact a1),eF]
    simp -implicitDefEqProofs[g2,g6,g7,hgb1,hw1,QA,hi,nd0 hi,nd2 hi,Qam,hk,hF,hst,e3,a1];repeat (refine⟨by omega,?_⟩)
    refine ih _ _ (by omega) h5 hb5 ?_ ?_ ?_
    . simp[g2]
    . simp[g6]
    . simp[w1]
  . have eF:fsL g (g.ns.length-i)=fsL g (g.ns.length-(i+1)):=by
     rw[efs]; simp only[fsL,hx2,Wa hk]
    simp -implicitDefEqProofs[g2,g6,g7,hgb1,hw1,QA,hi,nd0 hi,Qam,hk];repeat (refine⟨by omega,?_⟩)
    refine ih _ _ (by omega) (by rw[eF]; exact h1) hb1 ?_ ?_ ?_
    . simp[g2]
    . simp[g6]
    . simp[w1]
end
theorem Qht (g:Gm):∀ (k i:Nat),i<k->(QaK g k)[2*i+1]? = some (Q0 0 (Qv (g.acts i)))
 |0,i,h=>by omega
 |k+1,i,h=>by
  have hl:=Qes g k;by_cases e:i=k
  . subst e;simp only[QaK];rw[Vh (by omega),hl,show 2*i+1-2*i=1 by omega];rfl
  . simp only[QaK];rw[Ve (by omega)];exact Qht g k i (by omega)
theorem Qv3 (n:Nat):(List.replicate n [i64 0,i64 0,i64 0,i64 0]).flatten=Qa (Qv (4*n)):=by
 have h:[i64 0,i64 0,i64 0,i64 0]=List.replicate 4 (i64 0):=rfl;rw[h,List.flatten_replicate_replicate];simp[Qa,Qv,VB]
def s0T (g:Gm) (rnd seed:Int) (LA LP:List (List Int)):TS:=⟨rnd,seed,λi=>LA.getD i [],λi=>LP.getD i [],λi=>Qv (g.acts i),Qv (4*g.ns.length),Qv (4*g.ns.length),Qv (4*g.ns.length),Qv 10⟩
def c0T (g:Gm):TC:=⟨Qv g.ns.length,Qv g.is.length⟩
def Qbh (H:Ws) (LA LP:List (List Int)):Ws :=
 (H++(⟨Qx LA.length (λi=>H.length+1+i) (Qag LA) 1,45,0,true⟩::LA.map (Q0 1)))++(⟨Qx LP.length (λi=>H.length+1+LA.length+1+i) (Qag LP) 1,45,0,true⟩::LP.map (Q0 1))
def QbN (g:Gm) (H:Ws) (rnd seed:Int) (LA LP:List (List Int)):Ws :=
 Qbh H LA LP++([Qd g,⟨[i64 rnd,i64 seed,.own H.length 0 g.is.length 1 0,.own (H.length+1+g.is.length) 0 g.is.length 1 0],30,0,true⟩,⟨Qa (Qv g.ns.length),3,1,true⟩,⟨Qa (Qv g.is.length),3,1,true⟩,
  Qd g,⟨Qx g.is.length (pS H g) g.acts 0,45,0,true⟩]++(QaK g g.is.length++[QbQ g H (s0T g rnd seed LA LP),⟨Qa (Qv (4*g.ns.length)),105,1,true⟩,⟨Qa (Qv (4*g.ns.length)),105,1,true⟩,⟨Qa (Qv (4*g.ns.length)),105,1,true⟩]))
section
variable {g:Gm} {H:Ws} {rnd seed:Int} {LA LP:List (List Int)}
theorem Qp2 (hA:LA.length=g.is.length) (hP:LP.length=g.is.length):(QbN g H rnd seed LA LP)[pGb H g]? = some (Qd g):=by
 have hB:(Qbh H LA LP).length=H.length+2+2*g.is.length:=by simp[Qbh]; omega
 unfold QbN;rw[Vh (by unfold pGb; omega),hB,show pGb H g-(H.length+2+2*g.is.length)=0 by unfold pGb; omega];rfl
set_option maxRecDepth 10000 in
theorem TW.init (hcl:closed H) (hA:LA.length=g.is.length) (hP:LP.length=g.is.length) (hlA:∀ i,i<g.is.length->Qag LA i=g.acts i) (hlP:∀ i,i<g.is.length->Qag LP i=g.acts i) :
 TW g H (c0T g) (s0T g rnd seed LA LP) (QbN g H rnd seed LA LP):=by
 have hB:(Qbh H LA LP).length=H.length+2+2*g.is.length:=by simp[Qbh]; omega
 have hbl:=Qes g g.is.length;have up:∀ k:Nat,(QbN g H rnd seed LA LP)[H.length+2+2*g.is.length+k]? = ([Qd g,⟨[i64 rnd,i64 seed,.own H.length 0 g.is.length 1 0,.own (H.length+1+g.is.length) 0 g.is.length 1 0],30,0,true⟩,⟨Qa (Qv g.ns.length),3,1,true⟩,⟨Qa (Qv g.is.length),3,1,true⟩,
  Qd g,⟨Qx g.is.length (pS H g) g.acts 0,45,0,true⟩]++(QaK g g.is.length++[QbQ g H (s0T g rnd seed LA LP),⟨Qa (Qv (4*g.ns.length)),105,1,true⟩,⟨Qa (Qv (4*g.ns.length)),105,1,true⟩,⟨Qa (Qv (4*g.ns.length)),105,1,true⟩]))[k]? := λk=>by
  unfold QbN;rw[Vh (by omega),hB];congr 1; omega
 have up6:∀ k:Nat,(QbN g H rnd seed LA LP)[H.length+8+2*g.is.length+k]? = (QaK g g.is.length++[QbQ g H (s0T g rnd seed LA LP),⟨Qa (Qv (4*g.ns.length)),105,1,true⟩,⟨Qa (Qv (4*g.ns.length)),105,1,true⟩,⟨Qa (Qv (4*g.ns.length)),105,1,true⟩])[k]? := λk=>by
  rw[show H.length+8+2*g.is.length+k=H.length+2+2*g.is.length+(6+k)by omega,up,Vh (by simp)];congr 1; simp
 have upE:∀ k:Nat,(QbN g H rnd seed LA LP)[H.length+8+4*g.is.length+k]? = [QbQ g H (s0T g rnd seed LA LP),⟨Qa (Qv (4*g.ns.length)),105,1,true⟩,⟨Qa (Qv (4*g.ns.length)),105,1,true⟩,⟨Qa (Qv (4*g.ns.length)),105,1,true⟩][k]? := λk=>by
  rw[show H.length+8+4*g.is.length+k=H.length+8+2*g.is.length+(2*g.is.length+k)by omega,up6,Vh (by omega),hbl];congr 1; omega
 have dn:∀ k:Nat,k<(Qbh H LA LP).length->(QbN g H rnd seed LA LP)[k]? = (Qbh H LA LP)[k]? := λk hk=>by
  unfold QbN;rw[Ve hk]
 have b1:∀ k:Nat,k<H.length+1+g.is.length->(Qbh H LA LP)[k]? = (H++(⟨Qx LA.length (λi=>H.length+1+i) (Qag LA) 1,45,0,true⟩::LA.map (Q0 1)))[k]? := λk hk=>by
  unfold Qbh;rw[Ve (by simp; omega)]
 have b2:∀ k:Nat,(Qbh H LA LP)[H.length+1+g.is.length+k]? = ((⟨Qx LP.length (λi=>H.length+1+LA.length+1+i) (Qag LP) 1,45,0,true⟩::LP.map (Q0 1)):Ws)[k]? := λk=>by
  unfold Qbh;rw[Vh (by simp; omega)];congr 1; simp; omega
 have outs_c:∀ {I J:Nat} {p q n m:Nat->Nat},I=J->(∀ i,i<J->p i=q i)->(∀ i,i<J->n i=m i)->Qx I p n 1=Qx J q m 1:=λ{I J p q n m} hI hp hn=>by
  subst hI;unfold Qx;apply Vt;intro j hj;simp only[VE]at hj;rw[hp j hj,hn j hj]
 have hgd:∀ (L:List (List Int)) (i:Nat),(s0T g rnd seed LA LP).A=(λi=>LA.getD i []):=λ_ _=>rfl;constructor;case l =>
  refine⟨λi hi => ?_,λi hi => ?_,λi hi=>by simp[s0T],by simp[s0T],by simp[s0T],by simp[s0T],by simp[s0T],by simp[c0T],by simp[c0T]⟩
  . have:=hlA i hi; simpa[s0T,Qag]using this
  . have:=hlP i hi; simpa[s0T,Qag]using this
 case len=>simp[QbN,hB,hbl,pE]; omega
 case low =>
  intro i hi;rw[dn i (by omega),b1 i (by omega),Ve hi]
 case m=>rw[show pM H g=H.length+2+2*g.is.length+2 by unfold pM; omega,up]; rfl
 case f=>rw[show pF H g=H.length+2+2*g.is.length+3 by unfold pF; omega,up]; rfl
 case so=>rw[show pSo H g=H.length+2+2*g.is.length+5 by unfold pSo; omega,up]; rfl
 case ss=>intro i hi; rw[show pS H g i=H.length+8+2*g.is.length+(2*i+1)by unfold pS; omega,up6,Ve (by omega),Qht g _ i hi]; rfl
 case w=>rw[show pW H g=H.length+8+4*g.is.length+0 by unfold pW; omega,upE]; rfl
 case v=>rw[show pV H g=H.length+8+4*g.is.length+1 by unfold pV; omega,upE]; rfl
 case r=>rw[show pR H g=H.length+8+4*g.is.length+2 by unfold pR; omega,upE]; rfl
 case o=>rw[show pO H g=H.length+8+4*g.is.length+3 by unfold pO; omega,upE]; rfl
 case ao =>
  unfold pAo;rw[dn _ (by omega),b1 _ (by omega),Vh (by omega)];simp only[YT,List.getElem?_cons_zero];have:=outs_c (q:=pA H g) (m:=g.acts) hA (λi _=>by unfold pA; omega) hlA (p:=λi=>H.length+1+i);rw[this]
 case a =>
  intro i hi;rw[show pA H g i=H.length+(i+1)by unfold pA; omega,dn _ (by omega),b1 _ (by omega),Vh (by omega),show H.length+(i+1)-H.length=i+1 by omega];simp[s0T,Q0,hA,hi]
 case po =>
  rw[show pPo H g=H.length+1+g.is.length+0 by unfold pPo; omega,dn _ (by omega),b2];simp only[List.getElem?_cons_zero];have:=outs_c (q:=pP H g) (m:=g.acts) hP (λi _=>by unfold pP; omega) hlP (p:=λi=>H.length+1+LA.length+1+i);rw[this]
 case p =>
  intro i hi;rw[show pP H g i=H.length+1+g.is.length+(i+1)by unfold pP; omega,dn _ (by omega),b2];simp[s0T,Q0,hP,hi]
 case cl =>
  have hlen:(QbN g H rnd seed LA LP).length=pE H g:=by simp[QbN,hB,hbl,pE]; omega
  have hou:∀ (I:Nat) (p n:Nat->Nat) (v:Nat),(∀ i,i<I->p i<pE H g)->∀ x∈Qx I p n v,x.under (pE H g)=true:=λI p n v hp x hx=>by
   simp only[Qx,Vj,VE]at hx;obtain⟨i,hi,rfl⟩:=hx;simpa using hp i hi
  have hin:∀ (l:List Int),∀ x∈Qa l,x.under (pE H g)=true:=λl x hx=>by
   simp only[Qa,Vj]at hx;obtain⟨n,_,rfl⟩:=hx;rfl
  have hbk:∀ (k:Nat),∀ o∈QaK g k,∀ x∈o.cells,x.under (pE H g)=true:=λk=>by
   induction k with
   |zero=>intro o ho; simp[QaK]at ho
   |succ k ih =>
    intro o ho x hx;simp only[QaK,Vk,Vi,VP,Wi]at ho;rcases ho with ho|rfl|rfl
    . exact ih o ho x hx
    . simp at hx; rcases hx with rfl|rfl<;>rfl
    . exact hin _ x hx
  have hgb:∀ x∈(Qd g).cells,x.under (pE H g)=true:=λx hx=>by
   simp only[Qd,Vi,VP,Wi]at hx;rcases hx with rfl|rfl|rfl
   . rfl
   . simp[Q5]
   . simp[Q6]
  have hwb:∀ x∈(QbQ g H (s0T g rnd seed LA LP)).cells,x.under (pE H g)=true:=by
   rw[<-SV.underL_iff];simp only[QbQ,oI,SV.underL_append,QA,Va];unfold pM pF pAo pPo pSo pV pR pO pE;refine⟨?_,by simp⟩;simp[Q5,Q6];omega
  intro i o ho x hx;rw[hlen];have hm:o∈QbN g H rnd seed LA LP:=Vu ho;unfold QbN Qbh at hm;simp only[Vk,Vi,VP,Wi,Vj]at hm;rcases hm with ((hm|rfl|⟨l,_,rfl⟩)|rfl|⟨l,_,rfl⟩)|(rfl|rfl|rfl|rfl|rfl|rfl)|hm|rfl|rfl|rfl|rfl
  . obtain⟨j,hj⟩:=Vm hm;exact SV.under_mono (by unfold pE; omega) x (hcl j o hj x hx)
  . exact hou _ _ _ _ (λi hi=>by unfold pE; omega) x hx
  . exact hin _ x hx
  . exact hou _ _ _ _ (λi hi=>by unfold pE; omega) x hx
  . exact hin _ x hx
  . exact hgb x hx
  . simp only[Vi,VP,Wi]at hx;rcases hx with rfl|rfl|rfl|rfl
    . rfl
    . rfl
    . show decide (_<_)=true;rw[Wo]; unfold pE; omega
    . show decide (_<_)=true;rw[Wo]; unfold pE; omega
  . exact hin _ x hx
  . exact hin _ x hx
  . exact hgb x hx
  . exact hou _ _ _ _ (λi hi=>by unfold pS pE; omega) x hx
  . exact hbk _ o hm x hx
  . exact hwb x hx
  . exact hin _ x hx
  . exact hin _ x hx
  . exact hin _ x hx
end
section
variable {H:Ws} {g:Gm} {rnd seed:Int} {LA LP:List (List Int)}
set_option maxRecDepth 10000 in
theorem ok33 (hW:Wg g) (hcl0:closed H) (hA:LA.length=g.is.length) (hP:LP.length=g.is.length) (hlA:∀ i,i<g.is.length->Qag LA i=g.acts i) (hlP:∀ i,i<g.is.length->Qag LP i=g.acts i) :
 OkP Tryz.prog 33 [.agg g.cells,.agg [i64 rnd,i64 seed,.own H.length 0 g.is.length 1 0,.own (H.length+1+g.is.length) 0 g.is.length 1 0]] (Qbh H LA LP) λout G' =>
  out=.ret (.ptr (.own (pW H g) 0 0 0 0) 0)/\TW g H (cTC g) (s0T g rnd seed LA LP) G':=by
 have hn:=hW.gd.n;have hil:=hW.gd.i;have hB:(Qbh H LA LP).length=H.length+2+2*g.is.length:=by simp[Qbh]; omega
 have hti:=TW.init (rnd:=rnd) (seed:=seed) hcl0 hA hP hlA hlP;have htb:=Qp2 (rnd:=rnd) (seed:=seed) (H:=H) hA hP;have hin:QbN g H rnd seed LA LP=Qbh H LA LP++([Qd g,⟨[i64 rnd,i64 seed,.own H.length 0 g.is.length 1 0,.own (H.length+1+g.is.length) 0 g.is.length 1 0],30,0,true⟩,⟨Qa (Qv g.ns.length),3,1,true⟩,⟨Qa (Qv g.is.length),3,1,true⟩,
  Qd g,⟨Qx g.is.length (pS H g) g.acts 0,45,0,true⟩]++(QaK g g.is.length++[QbQ g H (s0T g rnd seed LA LP),⟨Qa (Qv (4*g.ns.length)),105,1,true⟩,⟨Qa (Qv (4*g.ns.length)),105,1,true⟩,⟨Qa (Qv (4*g.ns.length)),105,1,true⟩])):=rfl
 generalize Qbh H LA LP=B at *;refine Qce hm Tryz.func33 c33 (by simp[Gm.cells,Q5,Q6]; try omega) λhcl => ?_
 have h37:=λH'=>QjT (H:=H') hW;simp only[Gm.cells]at h37;simp -implicitDefEqProofs[i33,r33,Gm.cells];repeat (refine⟨by omega,?_⟩)
 refine Qj5 (L:=Qd g::⟨Qx g.is.length (pB (B.length+4)) g.acts 0,45,0,true⟩::QaK g g.is.length) (r:=.own (B.length+4+1) 0 g.is.length 1 0) (λH' hl => ?_) ?_
 . have:=h37 H';simp at hl;rw[hl]at this;exact this
 have hbl:=Qes g g.is.length;generalize QaK g g.is.length=M at *;simp -implicitDefEqProofs[Qd];refine⟨rfl,by omega,by omega,by omega,by omega,by omega,by omega,?_⟩;have w1:IntKind.i64.wrap ((g.ns.length:Int)-1)=(g.ns.length:Int)-1:=Qp (by omega) (by omega);have p6:B.length+(M.length+6)=pW H g:=by unfold pW; omega
 have p7:B.length+(M.length+7)=pV H g:=by unfold pV; omega
 have p8:B.length+(M.length+8)=pR H g:=by unfold pR; omega
 have p9:B.length+(M.length+9)=pO H g:=by unfold pO; omega
 have p2:B.length+2=pM H g:=by unfold pM; omega
 have p3:B.length+3=pF H g:=by unfold pF; omega
 have p5:B.length+5=pSo H g:=by unfold pSo; omega
 have p0:B.length=pGb H g:=by unfold pGb; omega
 have ps:pB (B.length+4)=pS H g:=by funext i; unfold pB pS; omega
 refine LI.cong (H':=QbN g H rnd seed LA LP) ?_ ?_
 . rw[hin,p7,p8,p9,p2,p3,p5,ps];simp[QbQ,oI,QA,s0T,Qd,Qv3,Qa,Qv,pAo,pPo]
 . rw[p6,p0];refine Qsi (s:=s0T g rnd seed LA LP) hW (λenv G g6 h => ?_) g.ns.length _ _ (Vc _) ?_ htb (by simp) (by simp) (by simp[w1])
   . simp -implicitDefEqProofs[g6];exact⟨_,_,⟨rfl,h⟩,Qo⟩
   . have e1:Qe g.ns.length (wtM g g.ns.length)=Qv g.ns.length:=by
      apply Vv;intro i;by_cases hi:i<g.ns.length
      . simp[Qe,Qv,wtM,hi]; omega
      . rw[Vl (by simp; omega),Vl (by simp; omega)]
     rw[e1,YT];exact hti
end
def QO (f:Nat->Int):Nat->Nat->Int
 |0,_=>0
 |m+1,i=>if f i≠0 then f i else QO f m (i+1)
theorem Qlc {f:Nat->Int}:∀ (m i:Nat),QO f m i=0↔∀ j,i<=j->j<i+m->f j=0
 |0,i=>by simp only[QO,true_iff]; intro j h1 h2; omega
 |m+1,i=>by
  simp only[QO];by_cases h:f i=0
  . rw[Wa (by simpa using h),Qlc m (i+1)];constructor
    . intro hh j h1 h2;by_cases e:j=i
      . subst e; exact h
      . exact hh j (by omega) (by omega)
    . intro hh j h1 h2; exact hh j (by omega) (by omega)
  . rw[Wb h];constructor
    . intro e; exact absurd e h
    . intro hh; exact hh i (Vc _) (by omega)
def Qaz (g:Gm) (p:Nat):Int:=if g.perf p=true then 0 else 13
def Gm.prpE (g:Gm):Int:=if g.formE≠0 then g.formE else QO (Qaz g) g.pl.toNat 0
section
variable {g:Gm} {H:Ws}
theorem Qv0 (hf:g.formE=0) {p:Nat} (hp:(p:Int)<g.pl):g.perfV p=g.perf p/\g.perfE p=0:=by
 have h1:g.perfE p=0:=by
  unfold Gm.perfE;rw[Wa (by simpa using hf),Wa (by omega)]
 exact⟨by unfold Gm.perfV; rw[Wb h1],h1⟩
theorem Qup (hf:g.formE=0) {B:Ws} (hB:Qf B H.length 0=g.cells) {N:Nat} {K:Wr}
 (hret:∀ e env,QO (Qaz g) g.pl.toNat 0=e->e≠0->env.get 2=i64 e->K .ret env B) (hexit:QO (Qaz g) g.pl.toNat 0=0->∀ env,K (.exit 0) env B) :
 ∀ (m p:Nat) (env:Env),((p+m:Nat):Int)=g.pl->QO (Qaz g) m p=QO (Qaz g) g.pl.toNat 0->env.get 1=.ptr (.own H.length 0 0 0 0) 0->env.get 13=i64 g.pl->env.get 14=i64 p->LI Tryz.prog N Qb Qiv env B K:=by
 have hW:=Qfp hf;have hp4:=hW.gd.p4;intro m
 induction m with
 |zero =>
  intro p env hp hE h1 h13 h14;refine Qc hm Qiv.eq_1 ?_;simp -implicitDefEqProofs[h13,h14,show ¬ (p:Int)<g.pl by omega];exact hexit hE.symm _
 |succ m ih =>
  intro p env hp hE h1 h13 h14;refine Qc hm Qiv.eq_1 ?_;have hpp:(p:Int)<g.pl:=by omega
  obtain⟨q1,q2⟩:=Qv0 hf hpp;have h63:=λH=>ok52 (H:=H) (g:=g) p;rw[q1,q2]at h63;simp only[Gm.cells]at h63 hB;have w1:=Qw (show p<9223372036854775807 by omega);simp -implicitDefEqProofs[h1,h13,h14,hpp,hB];refine Qh (h63 _) ?_;by_cases hq:g.perf p=true
  . have hE2:QO (Qaz g) m (p+1)=QO (Qaz g) g.pl.toNat 0:=by rw[<-hE]; simp[QO,Qaz,hq]
    simp -implicitDefEqProofs[hq,h1,h13,h14];refine ih (p+1) _ (by omega) hE2 ?_ ?_ ?_
    . simp
    . simp
    . simp[w1]
  . have hE2:QO (Qaz g) g.pl.toNat 0=13:=by rw[<-hE]; simp[QO,Qaz,hq]
    have hq':g.perf p=false:=by simpa using hq
    simp -implicitDefEqProofs[hq'];exact hret 13 _ hE2 (by decide) (by simp)
theorem ok29:Ok Tryz.prog 29 [.agg g.cells] H (.ret (i64 g.prpE)) H:=by
 refine Ql hm Tryz.func29 c29 (by simp[Gm.cells,Q5,Q6]) λhcl => ?_;have h62:=λH=>ok51 (H:=H) (g:=g);simp only[Gm.cells]at h62;simp -implicitDefEqProofs[i29,r29,Gm.cells];refine Qh (h62 _) ?_;by_cases hf:g.formE=0
 . have e:g.prpE=QO (Qaz g) g.pl.toNat 0:=by unfold Gm.prpE; rw[Wa (by simpa using hf)]
   have hp:=(Qfp hf).gd.p1;simp -implicitDefEqProofs[hf];rw[e];refine Qup (H:=H) hf (by simp[Gm.cells]) (λe env he hne h2 => ?_) (λhe env => ?_) g.pl.toNat 0 _ (by omega) rfl (by simp) (by simp) (by simp)
   . simp -implicitDefEqProofs[h2];rw[he];exact Qi 1 hcl rfl (by simp)
   . simp -implicitDefEqProofs;rw[he];exact Qi 1 hcl rfl (by simp)
 . have e:g.prpE=g.formE:=by unfold Gm.prpE; rw[Wb hf]
   simp -implicitDefEqProofs[hf,e];exact Qi 1 hcl rfl (by simp)
end
def Qa5 (g:Gm) (L:List (List Int)) (least:Int) (i:Nat):Int :=
 if((Qag L i:Nat):Int)≠(g.is.getD i (0,0)).2 then 3 else if(L.getD i []).any (λx=>decide (x<least)||decide (70368744177664<x))=true then 2 else 0
def QaP (g:Gm) (L:List (List Int)) (least:Int):Int:=if L.length≠g.is.length then 3 else QO (Qa5 g L least) g.is.length 0
section
variable {g:Gm} {H B:Ws} {L:List (List Int)} {least:Int}
set_option maxRecDepth 10000 in
theorem QtL {l:List Int} (hl:l.length<=10) {x17 x18 x19:SV} {N:Nat} {K:Wr}
 (hret:l.any (λx=>decide (x<least)||decide (70368744177664<x))=true->∀ env,env.get 6=i64 2->K .ret env B)
 (hexit:l.any (λx=>decide (x<least)||decide (70368744177664<x))=false->∀ env,env.get 2=i64 least->env.get 3=.ptr (.own H.length 0 0 0 0) 0->env.get 17=x17->env.get 18=x18->env.get 19=x19->K (.exit 2) env B) :
 ∀ (m i:Nat) (env:Env),i+m=l.length->(∀ j (h:j<l.length),j<i->¬ (l[j]<least\/70368744177664<l[j]))->env.get 2=i64 least->env.get 3=.ptr (.own H.length 0 0 0 0) 0->env.get 17=x17->env.get 18=x18->env.get 19=x19 ->
  env.get 33=sl l->env.get 34=i64 l.length->env.get 35=i64 i->LI Tryz.prog N Qb Qg9 env B K:=by
 intro m
 induction m with
 |zero =>
  intro i env hi hp h2 h3 h17 h18 h19 h33 h34 h35;refine Qc hm Qg9.eq_1 ?_;have e:i=l.length:=by omega
  subst e;simp -implicitDefEqProofs[h34,h35];refine hexit ?_ _ (by simp[h2]) (by simp[h3]) (by simp[h17]) (by simp[h18]) (by simp[h19]);rw[ZK];intro x hx;obtain⟨k,hk,rfl⟩:=VH hx;simpa using hp k hk hk
 |succ m ih =>
  intro i env hi hp h2 h3 h17 h18 h19 h33 h34 h35;refine Qc hm Qg9.eq_1 ?_;have hil:i<l.length:=by omega
  have w1:=Qw (show i<9223372036854775807 by omega);have bad:(l[i]<least\/70368744177664<l[i])->l.any (λx=>decide (x<least)||decide (70368744177664<x))=true:=λhb=>by
   rw[V5];exact⟨l[i],Vf hil,by simpa using hb⟩
  by_cases c1:l[i]<least
  . simp -implicitDefEqProofs[h2,h3,h17,h18,h19,h33,h34,h35,hil,sl,c1];exact⟨by omega,hret (bad (.inl c1)) _ (by simp)⟩
  . by_cases c2:70368744177664<l[i]
    . simp -implicitDefEqProofs[h2,h3,h17,h18,h19,h33,h34,h35,hil,sl,c1,c2];exact⟨by omega,hret (bad (.inr c2)) _ (by simp)⟩
    . simp -implicitDefEqProofs[h2,h3,h17,h18,h19,h33,h34,h35,hil,sl,c1,c2];refine⟨by omega,ih (i+1) _ (by omega) (λj hj hji => ?_) ?_ ?_ ?_ ?_ ?_ ?_ ?_ ?_⟩
      rotate_left
      . simp
      . simp[h3]
      . simp[h17]
      . simp[h18]
      . simp[h19]
      . simp[sl]
      . simp
      . simp[w1]
      by_cases e:j=i
      . subst e; exact λh=>h.elim c1 c2
      . exact hp j hj (by omega)
set_option maxRecDepth 10000 in
theorem QrK (hW:Wg g) (hB:Qf B H.length 0=g.cells) (hLl:L.length=g.is.length) {N:Nat} {K:Wr}
 (hret:∀ e env,QO (Qa5 g L least) g.is.length 0=e->env.get 6=i64 e->K .ret env B) (hexit:QO (Qa5 g L least) g.is.length 0=0->∀ env,K (.exit 0) env B) :
 ∀ (m i:Nat) (env:Env),i+m=g.is.length->QO (Qa5 g L least) m i=QO (Qa5 g L least) g.is.length 0->env.get 2=i64 least->env.get 3=.ptr (.own H.length 0 0 0 0) 0->env.get 17=.slc (sls L) L.length->env.get 18=i64 L.length->env.get 19=i64 i ->
  LI Tryz.prog N Qb QhA env B K:=by
 have hil:=hW.gd.i;intro m
 induction m with
 |zero =>
  intro i env hi hE h2 h3 h17 h18 h19;refine Qc hm QhA.eq_1 ?_;have e:i=L.length:=by omega
  subst e;simp -implicitDefEqProofs[h18,h19];exact hexit hE.symm _
 |succ m ih =>
  intro i env hi hE h2 h3 h17 h18 h19;refine Qc hm QhA.eq_1 ?_;have hii:i<g.is.length:=by omega
  have hiL:i<L.length:=by omega
  have hgi:g.is.getD i (0,0)=g.is[i]:=by simp[hii]
  have hgL:L.getD i []=L[i]:=by simp[hiL]
  have hac:=QaV hW hii;have ha:(g.acts i:Int)=g.is[i].2:=by unfold Gm.acts at hac ⊢; rw[hgi]at hac ⊢; omega
  have w1:=Qw (show i<9223372036854775807 by omega);have hig:QaL hii=QaL hii:=rfl;have i2:(Qu g.is)[i*2+1]?.getD .any=i64 g.is[i].2:=by
   rw[<-Vs,QaL hii]; rfl
  have i3:(Qu g.is).length=2*g.is.length:=Qa0 _;simp only[Gm.cells]at hB;by_cases hl:(L[i].length:Int)=g.is[i].2
  . have hR:Qa5 g L least i=if L[i].any (λx=>decide (x<least)||decide (70368744177664<x))=true then 2 else 0:=by
     unfold Qa5;rw[Qd3 hiL,hgi,Wa (by simpa using hl),hgL]
    simp -implicitDefEqProofs[h2,h3,h17,h18,h19,hiL,hii,QaE hiL,hB,i2,i3,hl,sl];repeat (refine⟨by omega,?_⟩)
    refine QtL (H:=H) (l:=L[i]) (least:=least) (by omega) (x17:=.slc (sls L) L.length) (x18:=i64 L.length) (x19:=i64 i) (λhb env g6 => ?_) (λhb env g2 g3 g17 g18 g19 => ?_) L[i].length 0 _ (by omega) (λj hj hj0=>by omega) (by simp[h2]) (by simp[h3]) (by simp[h17]) (by simp[h18]) (by simp[h19]) (by simp[sl]) (by simp[hl]) (by simp)
    . simp -implicitDefEqProofs;refine hret 2 _ ?_ g6;rw[<-hE]; simp[QO,hR,hb]
    . simp -implicitDefEqProofs[g2,g3,g17,g18,g19];refine ih (i+1) _ (by omega) (by rw[<-hE]; simp[QO,hR,hb]) ?_ ?_ ?_ ?_ ?_
      . simp[g2]
      . simp[g3]
      . simp[g17]
      . simp[g18]
      . simp[w1]
  . have hR:Qa5 g L least i=3:=by
     unfold Qa5;rw[Qd3 hiL,hgi,Wb hl]
    simp -implicitDefEqProofs[h2,h3,h17,h18,h19,hiL,hii,QaE hiL,hB,i2,i3,hl,sl];repeat (refine⟨by omega,?_⟩)
    refine hret 3 _ ?_ (by simp);rw[<-hE]; simp[QO,hR]
theorem ok39 (hW:Wg g):Ok Tryz.prog 39 [.agg g.cells,.slc (sls L) L.length,i64 least] H (.ret (i64 (QaP g L least))) H:=by
 refine Ql hm Tryz.func39 c39 (by simp[Gm.cells,Q5,Q6,Q3]) λhcl => ?_;simp -implicitDefEqProofs[i39,r39,Gm.cells];by_cases hl:L.length=g.is.length
 . have e:QaP g L least=QO (Qa5 g L least) g.is.length 0:=by unfold QaP; rw[Wa (by simpa using hl)]
   rw[e];simp -implicitDefEqProofs[hl];refine QrK (H:=H) (least:=least) (L:=L) hW (by simp[Gm.cells]) hl (λe env he h6 => ?_) (λhe env => ?_) g.is.length 0 _ (by omega) rfl (by simp) (by simp) (by simp[hl]) (by simp[hl]) (by simp)
   . simp -implicitDefEqProofs[h6];rw[he];exact Qi 1 hcl rfl (by simp)
   . simp -implicitDefEqProofs;rw[he];exact Qi 1 hcl rfl (by simp)
 . have e:QaP g L least=3:=by unfold QaP; rw[Wb hl]
   rw[e];have hl2:¬ (L.length:Int)=g.is.length:=by omega
   simp -implicitDefEqProofs[hl2,hl];exact Qi 1 hcl rfl (by simp)
end
structure Tin where
 rnd:Int
 seed:Int
 A:List (List Int)
 P:List (List Int)
def Tin.cells (t:Tin):Wt:=[i64 t.rnd,i64 t.seed,.slc (sls t.A) t.A.length,.slc (sls t.P) t.P.length]
def QaO (g:Gm) (t:Tin):Int:=if t.rnd<0\/1000000<t.rnd\/t.seed<0\/2147483646<t.seed then 2 else if QaP g t.A (-70368744177664)≠0 then QaP g t.A (-70368744177664)else QaP g t.P 0
def QP (g:Gm) (t:Tin):Int:=if g.prpE≠0 then g.prpE else QaO g t
theorem QeR {g:Gm} (h:g.prpE=0):Wg g:=by
 unfold Gm.prpE at h;by_cases hf:g.formE=0
 . exact Qfp hf
 . rw[Wb hf]at h; exact absurd h hf
section
variable {g:Gm} {H:Ws} {t:Tin}
set_option maxRecDepth 10000 in
theorem Qfz:Ok Tryz.prog 14 [.agg g.cells,.agg t.cells] H (.ret (i64 (QP g t))) H:=by
 refine Ql hm Tryz.func14 c14 (by simp[Gm.cells,Q5,Q6,Tin.cells,Q3]) λhcl => ?_;have h36:=λH=>ok29 (H:=H) (g:=g);have h39:=λH L le hW=>ok39 (H:=H) (g:=g) (L:=L) (least:=le) hW;simp only[Gm.cells]at h36 h39;simp -implicitDefEqProofs[i14,r14,Gm.cells,Tin.cells];refine Qh (h36 _) ?_;by_cases hp:g.prpE=0
 . have hW:=QeR hp;have e:QP g t=QaO g t:=by unfold QP; rw[Wa (by simpa using hp)]
   rw[e];by_cases c1:t.rnd<0
   . simp -implicitDefEqProofs[hp,c1];exact Qi 1 hcl rfl (by simp[QaO,c1])
   . by_cases c2:1000000<t.rnd
     . simp -implicitDefEqProofs[hp,c1,c2];exact Qi 1 hcl rfl (by simp[QaO,c1,c2])
     . by_cases c3:t.seed<0
       . simp -implicitDefEqProofs[hp,c1,c2,c3];exact Qi 1 hcl rfl (by simp[QaO,c1,c2,c3])
       . by_cases c4:2147483646<t.seed
         . simp -implicitDefEqProofs[hp,c1,c2,c3,c4];exact Qi 1 hcl rfl (by simp[QaO,c1,c2,c3,c4])
         . simp -implicitDefEqProofs[hp,c1,c2,c3,c4];refine Qh (h39 _ _ _ hW) ?_;by_cases c5:QaP g t.A (-70368744177664)=0
           . simp -implicitDefEqProofs[c5];refine Qh (h39 _ _ _ hW) ?_;simp -implicitDefEqProofs;exact Qi 1 hcl rfl (by simp[QaO,c1,c2,c3,c4,c5])
           . simp -implicitDefEqProofs[c5];exact Qi 1 hcl rfl (by simp[QaO,c1,c2,c3,c4,c5])
 . have e:QP g t=g.prpE:=by unfold QP; rw[Wb hp]
   rw[e];simp -implicitDefEqProofs[hp];exact Qi 1 hcl rfl (by simp)
end
section
variable {g:Gm} {H B:Ws} {L:List (List Int)} {least:Int}
set_option maxRecDepth 10000 in
theorem Que {i:Nat} (hi:i<L.length) (hl:L[i].length<=10) {N:Nat} {K:Wr}
 (hret:L[i].any (λx=>decide (x<least)||decide (70368744177664<x))=true->∀ env,env.get 6=i64 2->K .ret env B)
 (hexit:L[i].any (λx=>decide (x<least)||decide (70368744177664<x))=false->∀ env,env.get 1=.slc (sls L) L.length->env.get 2=i64 least->env.get 3=.ptr (.own H.length 0 0 0 0) 0->env.get 7=i64 i->K (.exit 2) env B) :
 ∀ (m k:Nat) (env:Env),k+m=L[i].length->(∀ j (h:j<L[i].length),j<k->¬ (L[i][j]<least\/70368744177664<L[i][j]))->env.get 1=.slc (sls L) L.length->env.get 2=i64 least->env.get 3=.ptr (.own H.length 0 0 0 0) 0->env.get 7=i64 i->env.get 8=i64 k->LI Tryz.prog N Qb QhL env B K:=by
 intro m
 induction m with
 |zero =>
  intro k env hk hp h1 h2 h3 h7 h8;refine Qc hm QhL.eq_1 ?_;have e:k=L[i].length:=by omega
  subst e;simp -implicitDefEqProofs[h1,h7,h8,hi,QaE hi,sl];refine⟨by omega,hexit ?_ _ (by simp) (by simp[h2]) (by simp[h3]) (by simp)⟩;rw[ZK];intro x hx;obtain⟨j,hj,rfl⟩:=VH hx;simpa using hp j hj hj
 |succ m ih =>
  intro k env hk hp h1 h2 h3 h7 h8;refine Qc hm QhL.eq_1 ?_;have hkl:k<L[i].length:=by omega
  have w1:=Qw (show k<9223372036854775807 by omega);have bad:(L[i][k]<least\/70368744177664<L[i][k])->L[i].any (λx=>decide (x<least)||decide (70368744177664<x))=true:=λhb=>by
   rw[V5];exact⟨L[i][k],Vf hkl,by simpa using hb⟩
  by_cases c1:L[i][k]<least
  . simp -implicitDefEqProofs[h1,h2,h3,h7,h8,hi,QaE hi,sl,hkl,c1];repeat (refine⟨by omega,?_⟩)
    exact hret (bad (.inl c1)) _ (by simp)
  . by_cases c2:70368744177664<L[i][k]
    . simp -implicitDefEqProofs[h1,h2,h3,h7,h8,hi,QaE hi,sl,hkl,c1,c2];repeat (refine⟨by omega,?_⟩)
      exact hret (bad (.inr c2)) _ (by simp)
    . simp -implicitDefEqProofs[h1,h2,h3,h7,h8,hi,QaE hi,sl,hkl,c1,c2];repeat (refine⟨by omega,?_⟩)
      refine ih (k+1) _ (by omega) (λj hj hji => ?_) ?_ ?_ ?_ ?_ ?_
      rotate_left
      . simp
      . simp
      . simp[h3]
      . simp
      . simp[w1]
      by_cases e:j=k
      . subst e; exact λh=>h.elim c1 c2
      . exact hp j hj (by omega)
set_option maxRecDepth 10000 in
theorem QuS (hW:Wg g) (hB:Qf B H.length 0=g.cells) (hLl:L.length=g.is.length) {N:Nat} {K:Wr}
 (hret:∀ e env,QO (Qa5 g L least) g.is.length 0=e->env.get 6=i64 e->K .ret env B) (hexit:QO (Qa5 g L least) g.is.length 0=0->∀ env,K (.exit 0) env B) :
 ∀ (m i:Nat) (env:Env),i+m=g.is.length->QO (Qa5 g L least) m i=QO (Qa5 g L least) g.is.length 0->env.get 1=.slc (sls L) L.length->env.get 2=i64 least->env.get 3=.ptr (.own H.length 0 0 0 0) 0->env.get 7=i64 i ->
  LI Tryz.prog N Qb Qjq env B K:=by
 have hil:=hW.gd.i;intro m
 induction m with
 |zero =>
  intro i env hi hE h1 h2 h3 h7;refine Qc hm Qjq.eq_1 ?_;have e:i=L.length:=by omega
  subst e;simp -implicitDefEqProofs[h1,h7];exact hexit hE.symm _
 |succ m ih =>
  intro i env hi hE h1 h2 h3 h7;refine Qc hm Qjq.eq_1 ?_;have hii:i<g.is.length:=by omega
  have hiL:i<L.length:=by omega
  have hgi:g.is.getD i (0,0)=g.is[i]:=by simp[hii]
  have hgL:L.getD i []=L[i]:=by simp[hiL]
  have hac:=QaV hW hii;have ha:(g.acts i:Int)=g.is[i].2:=by unfold Gm.acts at hac ⊢; rw[hgi]at hac ⊢; omega
  have w1:=Qw (show i<9223372036854775807 by omega);have i2:(Qu g.is)[i*2+1]?.getD .any=i64 g.is[i].2:=by
   rw[<-Vs,QaL hii]; rfl
  have i3:(Qu g.is).length=2*g.is.length:=Qa0 _;simp only[Gm.cells]at hB;by_cases hl:(L[i].length:Int)=g.is[i].2
  . have hR:Qa5 g L least i=if L[i].any (λx=>decide (x<least)||decide (70368744177664<x))=true then 2 else 0:=by
     unfold Qa5;rw[Qd3 hiL,hgi,Wa (by simpa using hl),hgL]
    simp -implicitDefEqProofs[h1,h2,h3,h7,hiL,hii,QaE hiL,hB,i2,i3,hl,sl];repeat (refine⟨by omega,?_⟩)
    refine Que (H:=H) (least:=least) hiL (by omega) (λhb env g6 => ?_) (λhb env g1 g2 g3 g7 => ?_) L[i].length 0 _ (by omega) (λj hj hj0=>by omega) (by simp) (by simp[h2]) (by simp[h3]) (by simp[h7]) (by simp)
    . simp -implicitDefEqProofs;refine hret 2 _ ?_ g6;rw[<-hE]; simp[QO,hR,hb]
    . simp -implicitDefEqProofs[g1,g2,g3,g7];refine ih (i+1) _ (by omega) (by rw[<-hE]; simp[QO,hR,hb]) ?_ ?_ ?_ ?_
      . simp[g1]
      . simp[g2]
      . simp[g3]
      . simp[w1]
  . have hR:Qa5 g L least i=3:=by
     unfold Qa5;rw[Qd3 hiL,hgi,Wb hl]
    simp -implicitDefEqProofs[h1,h2,h3,h7,hiL,hii,QaE hiL,hB,i2,i3,hl,sl];repeat (refine⟨by omega,?_⟩)
    refine hret 3 _ ?_ (by simp);rw[<-hE]; simp[QO,hR]
theorem ok74 (hW:Wg g):Ok Tryz.prog 74 [.agg g.cells,.slc (sls L) L.length,i64 least] H (.ret (i64 (QaP g L least))) H:=by
 refine Ql hm Tryz.func74 c74 (by simp[Gm.cells,Q5,Q6,Q3]) λhcl => ?_;simp -implicitDefEqProofs[i74,r74,Gm.cells];by_cases hl:L.length=g.is.length
 . have e:QaP g L least=QO (Qa5 g L least) g.is.length 0:=by unfold QaP; rw[Wa (by simpa using hl)]
   rw[e];simp -implicitDefEqProofs[hl];refine QuS (H:=H) (least:=least) (L:=L) hW (by simp[Gm.cells]) hl (λe env he h6 => ?_) (λhe env => ?_) g.is.length 0 _ (by omega) rfl (by simp[hl]) (by simp) (by simp) (by simp)
   . simp -implicitDefEqProofs[h6];rw[he];exact Qi 1 hcl rfl (by simp)
   . simp -implicitDefEqProofs;rw[he];exact Qi 1 hcl rfl (by simp)
 . have e:QaP g L least=3:=by unfold QaP; rw[Wb hl]
   rw[e];have hl2:¬ (L.length:Int)=g.is.length:=by omega
   simp -implicitDefEqProofs[hl2,hl];exact Qi 1 hcl rfl (by simp)
variable {t:Tin}
set_option maxRecDepth 10000 in
theorem ok47 (hW:Wg g):Ok Tryz.prog 47 [.agg g.cells,.agg t.cells] H (.ret (i64 (QaO g t))) H:=by
 refine Ql hm Tryz.func47 c47 (by simp[Gm.cells,Q5,Q6,Tin.cells,Q3]) λhcl => ?_;have h73:=λH L le=>ok74 (H:=H) (g:=g) (L:=L) (least:=le) hW;simp only[Gm.cells]at h73;by_cases c1:t.rnd<0
 . simp -implicitDefEqProofs[i47,r47,Gm.cells,Tin.cells,c1];exact Qi 1 hcl rfl (by simp[QaO,c1])
 . by_cases c2:1000000<t.rnd
   . simp -implicitDefEqProofs[i47,r47,Gm.cells,Tin.cells,c1,c2];exact Qi 1 hcl rfl (by simp[QaO,c1,c2])
   . by_cases c3:t.seed<0
     . simp -implicitDefEqProofs[i47,r47,Gm.cells,Tin.cells,c1,c2,c3];exact Qi 1 hcl rfl (by simp[QaO,c1,c2,c3])
     . by_cases c4:2147483646<t.seed
       . simp -implicitDefEqProofs[i47,r47,Gm.cells,Tin.cells,c1,c2,c3,c4];exact Qi 1 hcl rfl (by simp[QaO,c1,c2,c3,c4])
       . simp -implicitDefEqProofs[i47,r47,Gm.cells,Tin.cells,c1,c2,c3,c4];refine Qh (h73 _ _ _) ?_;by_cases c5:QaP g t.A (-70368744177664)=0
         . simp -implicitDefEqProofs[c5];refine Qh (h73 _ _ _) ?_;simp -implicitDefEqProofs;exact Qi 1 hcl rfl (by simp[QaO,c1,c2,c3,c4,c5])
         . simp -implicitDefEqProofs[c5];exact Qi 1 hcl rfl (by simp[QaO,c1,c2,c3,c4,c5])
end
section
variable {g:Gm} {H:Ws}
theorem QrU (hW:Wg g) {B:Ws} (hB:Qf B H.length 0=g.cells) {N:Nat} {K:Wr}
 (hret:QO (Qaz g) g.pl.toNat 0=13->∀ env,env.get 2=nl->env.get 3=i64 13->K .ret env B)
 (hexit:QO (Qaz g) g.pl.toNat 0=0->∀ env,env.get 1=.ptr (.own H.length 0 0 0 0) 0->K (.exit 0) env B) :
 ∀ (m p:Nat) (env:Env),((p+m:Nat):Int)=g.pl->QO (Qaz g) m p=QO (Qaz g) g.pl.toNat 0->env.get 1=.ptr (.own H.length 0 0 0 0) 0->env.get 4=i64 p->LI Tryz.prog N Qb QhE env B K:=by
 have hp4:=hW.gd.p4;intro m
 induction m with
 |zero =>
  intro p env hp hE h1 h4;refine Qc hm QhE.eq_1 ?_;simp only[Gm.cells]at hB;simp -implicitDefEqProofs[h1,h4,hB,show ¬ (p:Int)<g.pl by omega];exact hexit hE.symm _ (by simp)
 |succ m ih =>
  intro p env hp hE h1 h4;refine Qc hm QhE.eq_1 ?_;have hpp:(p:Int)<g.pl:=by omega
  have h86:=λH=>ok96 (H:=H) (g:=g) hW p;rw[<-QvW hW]at h86;simp only[Gm.cells]at h86 hB;have w1:=Qw (show p<9223372036854775807 by omega);simp -implicitDefEqProofs[h1,h4,hpp,hB];refine Qh (h86 _) ?_;by_cases hq:g.perf p=true
  . have hE2:QO (Qaz g) m (p+1)=QO (Qaz g) g.pl.toNat 0:=by rw[<-hE]; simp[QO,Qaz,hq]
    simp -implicitDefEqProofs[hq,h1,h4];refine ih (p+1) _ (by omega) hE2 ?_ ?_
    . simp
    . simp[w1]
  . have hE2:QO (Qaz g) g.pl.toNat 0=13:=by rw[<-hE]; simp[QO,Qaz,hq]
    have hq':g.perf p=false:=by simpa using hq
    simp -implicitDefEqProofs[hq'];exact hret hE2 _ (by simp) (by simp)
set_option maxRecDepth 10000 in
theorem QvF (hW:Wg g) {N:Nat} {K:Wr}
 (hexit:∀ env v cs M,env.get 6=.own (H.length+1) 0 g.is.length 2 v->K (.exit 2) env (H++Qd g::⟨cs,154,v,true⟩::M)) :
 ∀ (m i:Nat) (env:Env) (cs:Wt) (v:Nat) (M:Ws),i+m=g.is.length->cs.length=i*2->env.get 1=.ptr (.own H.length 0 0 0 0) 0->env.get 5=.slc (g.sets.map slN) g.is.length->env.get 6=.own (H.length+1) 0 i 2 v->env.get 7=i64 i ->
  LI Tryz.prog N Qb QiC env (H++Qd g::⟨cs,154,v,true⟩::M) K:=by
 have hil:=hW.gd.i;have hn:=hW.gd.n;intro m
 induction m with
 |zero =>
  intro i env cs v M hi hc h1 h5 h6 h7;refine Qc hm QiC.eq_1 ?_;have e:i=g.is.length:=by omega
  subst e;simp -implicitDefEqProofs[h1,h7,Qd];exact hexit _ v cs M (by simp[h6])
 |succ m ih =>
  intro i env cs v M hi hc h1 h5 h6 h7;refine Qc hm QiC.eq_1 ?_;have hii:i<g.is.length:=by omega
  obtain⟨t,ht,k1,k2,k3,k4⟩:=fn_of hW hii;have hsl:i<g.sets.length:=by rw[QaT]; exact hii
  have hgs:g.sets.getD i []=g.sets[i]:=by simp[hsl]
  rw[hgs]at k1;obtain⟨r,hr⟩:∃ r,g.sets[i]=(t:Int)::r:=by
   cases hh:g.sets[i]with
   |nil=>rw[hh]at k1; cases k1
   |cons a r=>rw[hh]at k1; cases k1; exact⟨r,rfl⟩
  have hsN:slN g.sets[i]=.slc (i64 (t:Int)::Qa r) (r.length+1):=by rw[hr]; simp[slN,sl,Qa]
  have h87:=λH=>QlB (H:=H) (g:=g) hW ht (g.is[i].1);simp only[Gm.cells]at h87;have w1:=Qw (show i<9223372036854775807 by omega);have hwl:(g.way t g.is[i].1).length<=2000:=by have:=Qe1 (g:=g) (node:=t) (pl:=g.is[i].1); omega
  generalize g.way t g.is[i].1=W at *;simp -implicitDefEqProofs[h1,h5,h6,h7,hii,Qd,hsl,hsN,QaL hii,QdG hii,QdV hii,QaT];repeat (refine⟨by omega,?_⟩)
  refine Qa9 (λ_=>h87 _) ?_;by_cases h0:W.length=0
  . have hW0:W=[]:=Vx h0;simp -implicitDefEqProofs[h1,h5,h6,h7,ws,hW0,Qu,hii,hc];repeat (refine⟨by omega,?_⟩)
    refine ih (i+1) _ _ _ _ (by omega) (by simp[hc]; omega) ?_ ?_ ?_ ?_
    . simp
    . simp
    . simp
    . simp[w1]
  . have hz:W.length-1<W.length:=by omega
    have w2:IntKind.i64.wrap ((W.length:Int)-1)=((W.length-1:Nat):Int):=by rw[Qp (by omega) (by omega)]; omega
    have f1:(Qu W)[(W.length-1)*2]?.getD .any=i64 W[W.length-1].1:=by
     have:=QaL hz;have h2:((Qu W).drop ((W.length-1)*2))[0]? = some (i64 W[W.length-1].1):=by rw[this]; rfl
     rw[Vs,Yc]at h2; rw[h2]; rfl
    have f2:(Qu W)[(W.length-1)*2+1]?.getD .any=i64 W[W.length-1].2:=by
     rw[<-Vs,QaL hz]; rfl
    have f3:(Qu W).length=2*W.length:=Qa0 _;simp -implicitDefEqProofs[h1,h5,h6,h7,ws,h0,hii,hc,w2,f1,f2,f3,show 0<W.length by omega];repeat (refine⟨by omega,?_⟩)
    refine ih (i+1) _ _ _ _ (by omega) (by simp[hc]; omega) ?_ ?_ ?_ ?_
    . simp
    . simp
    . simp
    . simp[w1]
set_option maxRecDepth 10000 in
theorem ok68 (hW:Wg g):Ok Tryz.prog 68 [.agg g.cells] H (.ret (.tup [.any,i64 (QO (Qaz g) g.pl.toNat 0)])) H:=by
 have hil:=hW.gd.i;have hp1:=hW.gd.p1;refine Ql hm Tryz.func68 c68 (by simp[Gm.cells,Q5,Q6]) λhcl => ?_;have h85:=λH=>QlT (H:=H) hW.gd;simp only[Gm.cells]at h85;have fin:∀ (x:SV) (L:Ws),Cv H.length (.tup [x,i64 (QO (Qaz g) g.pl.toNat 0)]) (H++L) (.tup [.any,i64 (QO (Qaz g) g.pl.toNat 0)]) H:=λx L=>by
  refine Cv.le (Qi 3 hcl rfl rfl) ?_;rw[Qd8];refine Qic ?_;show leL [SV.fz H.length [] L 2 x,SV.fz H.length [] L 2 (i64 (QO (Qaz g) g.pl.toNat 0))] _;rw[Qdd];exact leL.cons (λ_ _ _=>.any _) (leL.refl _)
 simp -implicitDefEqProofs[i68,r68,Gm.cells];refine QrU (H:=H) hW (by simp[Gm.cells]) (λhe env h2 h3 => ?_) (λhe env h1 => ?_) g.pl.toNat 0 _ (by omega) rfl (by simp) (by simp)
 . simp -implicitDefEqProofs[h2,h3];have:=fin nl [⟨g.cells,26,0,true⟩];rw[he]at this ⊢;simpa[Gm.cells]using this
 . simp -implicitDefEqProofs[h1];refine Qh (h85 _) ?_;simp -implicitDefEqProofs[h1];have hg:H++[Qd g,⟨[],154,0,true⟩]=H++Qd g::⟨[],154,0,true⟩::[]:=rfl;refine QvF hW (λenv v cs M h6 => ?_) g.is.length 0 _ [] 0 [] (by omega) rfl (by simp[h1]) (by simp) (by simp) (by simp);simp -implicitDefEqProofs[h6];rw[<-he];exact fin _ _
theorem Qm4:g.prpE=if g.formR≠0 then g.formR else QO (Qaz g) g.pl.toNat 0:=by rw[Qnf]; rfl
theorem ok42:Ok Tryz.prog 42 [.agg g.cells] H (.ret (i64 g.prpE)) H:=by
 refine Ql hm Tryz.func42 c42 (by simp[Gm.cells,Q5,Q6]) λhcl => ?_;have h71:=λH=>ok37 (H:=H) (g:=g);simp only[Gm.cells]at h71;simp -implicitDefEqProofs[i42,r42,Gm.cells];refine Qh (h71 _) ?_;by_cases hf:g.formR=0
 . have hW:=Qfp (by rw[<-Qnf]; exact hf:g.formE=0);have h72:=λH=>ok68 (H:=H) hW;simp only[Gm.cells]at h72;have e:g.prpE=QO (Qaz g) g.pl.toNat 0:=by rw[Qm4,Wa (by simpa using hf)]
   simp -implicitDefEqProofs[hf];refine Qh (h72 _) ?_;simp -implicitDefEqProofs;rw[e];exact Qi 1 hcl rfl (by simp)
 . have e:g.prpE=g.formR:=by rw[Qm4,Wb hf]
   simp -implicitDefEqProofs[hf,e];exact Qi 1 hcl rfl (by simp)
theorem Qjf {t:Tin}:Ok Tryz.prog 23 [.agg g.cells,.agg t.cells] H (.ret (i64 (QP g t))) H:=by
 refine Ql hm Tryz.func23 c23 (by simp[Gm.cells,Q5,Q6,Tin.cells,Q3]) λhcl => ?_;have h54:=λH=>ok42 (H:=H) (g:=g);have h55:=λH hW=>ok47 (H:=H) (g:=g) (t:=t) hW;simp only[Gm.cells,Tin.cells]at h54 h55;simp -implicitDefEqProofs[i23,r23,Gm.cells,Tin.cells];refine Qh (h54 _) ?_;by_cases hp:g.prpE=0
 . have e:QP g t=QaO g t:=by unfold QP; rw[Wa (by simpa using hp)]
   simp -implicitDefEqProofs[hp,e];refine Qh (h55 _ (QeR hp)) ?_;simp -implicitDefEqProofs;exact Qi 1 hcl rfl (by simp[e])
 . have e:QP g t=g.prpE:=by unfold QP; rw[Wb hp]
   simp -implicitDefEqProofs[hp,e];exact Qi 1 hcl rfl (by simp)
end
abbrev rpt (f:Nat):SV:=.ptr (.own f 0 0 0 0) 0
def zT:AO:=⟨[i64 0,i64 0,nl,nl],30,0,true⟩
def eT (e:Int):AO:=⟨[i64 e],31,0,true⟩
section
variable {H:Ws}
theorem Qt4 {f g:Nat} (hf:f<H.length) (hg:g<H.length):OkD Tryz.prog 32 [rpt f,rpt g] H none (λH'=>H'=H):=by
 refine Qn0 hm Tryz.func32 c32 (by rfl) λhcl => ?_;simp -implicitDefEqProofs[Qlm,i32,rvD,SV.isIf,SV.ifNil];exact Qo
theorem Qud {f g:Nat} {c1 c2:Wt} (hf:H[f]? = some ⟨c1,30,0,true⟩) (hc1:c1.length=4) (hg:H[g]? = some ⟨c2,31,0,true⟩) (hc2:c2.length=1) (hne:f≠g) :
 OkD Tryz.prog 32 [rpt f,rpt g] H (some QdL) (λH'=>H'=(H.set f zT).set g (eT 5)):=by
 have hj:=Qg hf;have hjg:=Qg hg;have e1:∀ L,Qf (H++L) f 0=c1:=λL=>QC hf L;have e10:Qf H f 0=c1:=oc0 hf;have e2:∀ (L:Ws) (h:AO->AO),Ab.setObj (H++L) f h=H.set f (h ⟨c1,30,0,true⟩)++L:=λL h=>Qcj hf L h;have hg':(H.set f zT)[g]? = some ⟨c2,31,0,true⟩:=by rw[Vd hne]; exact hg
 have hg2:((H.set f zT).set g (eT 13))[g]? = some (eT 13):=by rw[Vg (by simpa using hjg)]
 have d1:List.drop 4 c1=[]:=ZH (by omega);have d2:List.drop 1 c2=[]:=ZH (by omega);have d3:c2.tail=[]:=by rw[<-List.drop_one]; exact d2
 have s1:∀ h:AO->AO,Ab.setObj H f h=H.set f (h ⟨c1,30,0,true⟩):=λh=>QY hf h;have o1:Qf (H.set f zT) g 0=c2:=oc0 hg';have s2:∀ h:AO->AO,Ab.setObj (H.set f zT) g h=(H.set f zT).set g (h ⟨c2,31,0,true⟩):=λh=>QY hg' h;have o2:∀ L,Qf ((H.set f zT).set g (eT 13)++L) g 0=[i64 13]:=λL=>QC hg2 L;have s3:∀ (L:Ws) (h:AO->AO),Ab.setObj ((H.set f zT).set g (eT 13)++L) g h=((H.set f zT).set g (eT 13)).set g (h (eT 13))++L:=λL h=>Qcj hg2 L h;have n1:∀ (L:Ws) (v:Nat),Qf ((H.set f zT).set g (eT 13)++L) H.length v=Qf L 0 v:=λL v=>Qda (H:=H) (L:=L) (a:=f) (k:=g) (o:=zT) (p:=eT 13) v;have n2:∀ (L:Ws) (h:AO->AO),Ab.setObj ((H.set f zT).set g (eT 13)++L) H.length h=(H.set f zT).set g (eT 13)++Ab.setObj L 0 h:=λL h=>by
  have:=QcY (H:=H) (L:=L) (a:=f) (k:=g) (o:=zT) (p:=eT 13) 0 h;simpa[G2]using this
 have hcz:closed H->closed ((H.set f zT).set g (eT 5)):=λhcl=>QcF (QcF hcl f (o:=zT) (by simp[zT])) g (by simp[eT]);simp only[zT,eT]at o1 s2 o2 s3 n1 n2;refine Qn0 hm Tryz.func32 c32 (by rfl) λhcl => ?_;simp -implicitDefEqProofs[Qlm,i32,rvD,SV.isIf,SV.ifNil,QdL,e10,s1,hc1,d1,o1,s2,hc2,d2,d3,o2,s3,SV.ifIs,SV.ifVal,n1,n2];refine⟨rfl,?_⟩;exact QfQ rfl (by simp) (by simpa[zT,eT]using hcz hcl) rfl
end
def okB (g:Gm) (s:TS):Bool:=(List.range g.is.length).all λi=>(List.range (g.acts i)).all λa => !(decide ((s.A i).getD a 0 < -70368744177664)) && !(decide (70368744177664<(s.A i).getD a 0)) && !(decide (70368744177664<(s.P i).getD a 0))
theorem QfL {g:Gm} {s:TS}:okB g s=true↔Qbc g s:=by
 unfold okB Qbc Qcf;simp only[Vz,VE,Va,VV,Wp];constructor
 . intro h i hi a ha; have:=h i hi a ha; exact⟨this.1.1,this.1.2,this.2⟩
 . intro h i hi a ha; have:=h i hi a ha; exact⟨⟨this.1,this.2.1⟩,this.2.2⟩
def QbT (g:Gm):Nat->TS->Option TS
 |0,s=>some s
 |n+1,s=>if okB g (Q8 g (cTC g) s)=true then QbT g n (Q8 g (cTC g) s)else none
def Tin.zero:Tin:=⟨0,0,[],[]⟩
def QQ (g:Gm) (s:TS):Tin:=⟨s.rnd,s.seed,(List.range g.is.length).map s.A,(List.range g.is.length).map s.P⟩
def Qai (g:Gm) (t:Tin) (n:Int):Tin×Int :=
 if QP g t≠0 then(.zero,QP g t)else if n<0\/20000<n\/1000000<t.rnd+n then(.zero,2)else
  match QbT g n.toNat (s0T g t.rnd t.seed t.A t.P)with
  |none=>(.zero,5)
  |some s=>(QQ g s,0)
theorem QbI {g:Gm} (hW:Wg g) {L:List (List Int)} {least:Int} (h:QaP g L least=0):L.length=g.is.length/\∀ i,i<g.is.length->Qag L i=g.acts i/\∀ x∈L.getD i [],least<=x/\x<=70368744177664:=by
 unfold QaP at h;by_cases hl:L.length=g.is.length
 . rw[Wa (by simpa using hl),Qlc]at h;refine⟨hl,λi hi => ?_⟩;have hr:=h i (VS _) (by omega);have hgi:g.is.getD i (0,0)=g.is[i]:=by simp[hi]
   have hac:=QaV hW hi;have ha:(g.acts i:Int)=g.is[i].2:=by unfold Gm.acts at hac ⊢; rw[hgi]at hac ⊢; omega
   unfold Qa5 at hr;rw[hgi]at hr;by_cases h1:((Qag L i:Nat):Int)=g.is[i].2
   . rw[Wa (by simpa using h1)]at hr;refine⟨by omega,λx hx => ?_⟩;split at hr
     . cases hr
     . rename_i h2;simp only[V5,not_exists,not_and,V9,Wd]at h2;have:=h2 x hx;omega
   . rw[Wb h1]at hr; cases hr
 . rw[Wb hl]at h; cases h
theorem QcO {g:Gm} {t:Tin} (h:QP g t=0):Wg g/\0<=t.rnd/\t.rnd<=1000000/\QaP g t.A (-70368744177664)=0/\QaP g t.P 0=0:=by
 unfold QP at h;by_cases hp:g.prpE=0
 . rw[Wa (by simpa using hp)]at h;unfold QaO at h;split at h
   . cases h
   . split at h
     . rename_i h1 h2; exact absurd h h2
     . rename_i h1 h2;exact⟨QeR hp,by omega,by omega,by simpa using h2,h⟩
 . rw[Wb hp]at h; exact absurd h hp
theorem Qmf {g:Gm} {t:Tin} (h:QP g t=0):Qbc g (s0T g t.rnd t.seed t.A t.P):=by
 obtain⟨hW,h1,h2,h3,h4⟩:=QcO h;obtain⟨a1,a2⟩:=QbI hW h3;obtain⟨p1,p2⟩:=QbI hW h4;intro i hi a ha;have la:a<(t.A.getD i []).length:=by have:=(a2 i hi).1; unfold Qag at this; omega
 have lp:a<(t.P.getD i []).length:=by have:=(p2 i hi).1; unfold Qag at this; omega
 have e1:(t.A.getD i []).getD a 0=(t.A.getD i [])[a]:=by rw[Vp,Vb la]; rfl
 have e2:(t.P.getD i []).getD a 0=(t.P.getD i [])[a]:=by rw[Vp,Vb lp]; rfl
 have q1:=(a2 i hi).2 _ (Vf la);have q2:=(p2 i hi).2 _ (Vf lp);unfold Qcf;simp only[s0T,e1,e2];omega
section
variable {H G:Ws}
theorem Ql3 {p:Nat} (hp:H.length<=p) {l:List Int} {T:Ww} {v:Nat} (h:G[p]? = some ⟨Qa l,T,v,true⟩) (d:Nat):SV.fz H.length [] (G.drop H.length) (d+2) (.own p 0 l.length 1 v)=sl l:=by
 have hg:(G.drop H.length)[p-H.length]? = some ⟨Qa l,T,v,true⟩:=by rw[Vs,show H.length+(p-H.length)=p by omega]; exact h
 unfold SV.fz;rw[Wa (by simp[SV.under]; omega)];simp only[hg,Qah];simp[sl]
theorem QoR {g:Gm} {p:Nat} (hp:H.length<=p) {q:Nat->Nat} {n:Nat->Nat} {A:Nat->List Int} {v w:Nat} {T:Ww} (h:G[p]? = some ⟨Qx g.is.length q n v,T,w,true⟩)
 (hq:∀ i,i<g.is.length->H.length<=q i/\G[q i]? = some ⟨Qa (A i),3,v,true⟩/\(A i).length=n i) (d:Nat) :
 SV.fz H.length [] (G.drop H.length) (d+3) (.own p 0 g.is.length 1 w)=.slc (sls ((List.range g.is.length).map A)) g.is.length:=by
 have hg:(G.drop H.length)[p-H.length]? = some ⟨Qx g.is.length q n v,T,w,true⟩:=by rw[Vs,show H.length+(p-H.length)=p by omega]; exact h
 unfold SV.fz;rw[Wa (by simp[SV.under]; omega)];simp only[hg,Qah];simp only[Qn5,Yw,V0,Vc,and_self,We,YR];congr 1;have e:List.take g.is.length (Qx g.is.length q n v)=Qx g.is.length q n v:=VA (by simp);rw[e];simp only[Qx,sls,YY];apply Vt;intro i hi;simp only[VE]at hi;obtain⟨q1,q2,q3⟩:=hq i hi;simp only[Function.comp_apply];rw[<-q3];exact Ql3 q1 q2 d
end
section
variable {H:Ws} {g:Gm}
def hb8 (H:Ws) (g:Gm) (t:Tin):Ws:=H++[Qd g,⟨t.cells,30,0,true⟩,zT,eT 0]
@[simp] theorem QvP (t:Tin):(hb8 H g t).length=H.length+4:=by simp[hb8]
theorem Qks {t:Tin} {i:Nat} (h:i<H.length):(hb8 H g t)[i]? = H[i]? := by unfold hb8; rw[Ve h]
theorem QdC {t:Tin} (k:Nat):(hb8 H g t)[H.length+k]? = [Qd g,⟨t.cells,30,0,true⟩,zT,eT 0][k]? := by
 unfold hb8; rw[Vh (by omega)]; congr 1; omega
theorem Qt0 {t:Tin} (hcl:closed H):closed (hb8 H g t):=by
 intro i o ho s hs;rw[QvP];by_cases hi:i<H.length
 . rw[Qks hi]at ho;exact SV.under_mono (by omega) s (hcl i o ho s hs)
 . obtain⟨k,rfl⟩:∃ k,i=H.length+k:=⟨i-H.length,by omega⟩;rw[QdC]at ho;have hm:=Vu ho;simp only[Vi,VP,Wi]at hm;have:SV.underL (H.length+4) o.cells=true:=by
    rcases hm with rfl|rfl|rfl|rfl
    . simp[Qd,Q5,Q6]
    . simp[Tin.cells,Q3]
    . simp[zT]
    . simp[eT]
   exact(SV.underL_iff _ _).1 this s hs
set_option maxRecDepth 10000 in
theorem QrP (hW:Wg g) {B:Ws} {x6 x7:SV} {nn:Nat} (hn:nn<=20000) {s0:TS} {N:Nat} {K:Wr}
 (hpan:QbT g nn s0=none->∀ env G s,TW g B (cTC g) s G->env.get 6=x6->env.get 7=x7->K (.panic QdL) env G)
 (hexit:∀ s,QbT g nn s0=some s->∀ env G,TW g B (cTC g) s G->env.get 6=x6->env.get 7=x7->env.get 9=.ptr (.own (pW B g) 0 0 0 0) 0->K (.exit 0) env G) :
 ∀ (m j:Nat) (env:Env) (G:Ws) (s:TS),j+m=nn->Qbc g s->QbT g m s=QbT g nn s0->TW g B (cTC g) s G->env.get 6=x6->env.get 7=x7->env.get 9=.ptr (.own (pW B g) 0 0 0 0) 0->env.get 45=i64 nn->env.get 46=i64 j ->
  LI Tryz.prog N Qb QgI env G K:=by
 intro m
 induction m with
 |zero =>
  intro j env G s hj hk hr h h6 h7 h9 h45 h46;refine Qc hm QgI.eq_1 ?_;have e:j=nn:=by omega
  subst e;simp -implicitDefEqProofs[h45,h46];exact hexit s hr.symm _ _ h (by simp[h6]) (by simp[h7]) (by simp[h9])
 |succ m ih =>
  intro j env G s hj hk hr h h6 h7 h9 h45 h46;refine Qc hm QgI.eq_1 ?_;have hjn:j<nn:=by omega
  have w1:=Qw (show j<9223372036854775807 by omega);simp -implicitDefEqProofs[h9,h45,h46,hjn];refine QbL (ok35 hW (QmV hW) h hk) λout G' hP => ?_;obtain⟨h2,⟨hk2,rfl⟩|⟨hk2,rfl⟩⟩:=hP
  . simp -implicitDefEqProofs[h6,h7,h9,h45,h46];refine ih (j+1) _ _ _ (by omega) hk2 ?_ h2 ?_ ?_ ?_ ?_ ?_
    . rw[<-hr]; simp[QbT,QfL.2 hk2]
    . simp[h6]
    . simp[h7]
    . simp
    . simp
    . simp[w1]
  . simp -implicitDefEqProofs;refine hpan ?_ _ _ _ h2 (by simp[h6]) (by simp[h7]);rw[<-hr];have:¬ okB g (Q8 g (cTC g) s)=true:=λhb=>hk2 (QfL.1 hb);simp[QbT,this]
theorem QpV {t:Tin} {n:Int} (hcl:closed H) (he:Qai g t n=(.zero,5)) {s:TS} {G:Ws} {env:Env} (h:TW g (hb8 H g t) (cTC g) s G) (h6:env.get 6=rpt (H.length+2)) (h7:env.get 7=rpt (H.length+3)) :
 Qhk Tryz.prog H.length r11 (λo h=>o=.ret (.tup [.agg (Qai g t n).1.cells,i64 (Qai g t n).2])/\h=H) 32 [rpt (H.length+2),rpt (H.length+3)] (.panic QdL) env G:=by
 have g2:G[H.length+2]? = some ⟨[i64 0,i64 0,nl,nl],30,0,true⟩:=by rw[h.low _ (by simp),QdC]; rfl
 have g3:G[H.length+3]? = some ⟨[i64 0],31,0,true⟩:=by rw[h.low _ (by simp),QdC]; rfl
 refine⟨_,Qud g2 rfl g3 rfl (by omega),?_⟩;rintro H4 rfl;have l2:=Qg g2;have l3:=Qg g3;have e2:Qf ((G.set (H.length+2) zT).set (H.length+3) (eT 5)) (H.length+2) 0=[i64 0,i64 0,nl,nl]:=oc0 (T:=30) (by rw[Vd (by omega),Vg l2]; rfl);have e3:Qf ((G.set (H.length+2) zT).set (H.length+3) (eT 5)) (H.length+3) 0=[i64 5]:=oc0 (T:=31) (by rw[Vg (by simpa using l3)]; rfl);obtain⟨L,hL⟩:∃ L,(G.set (H.length+2) zT).set (H.length+3) (eT 5)=H++L:=by
  refine⟨((G.set (H.length+2) zT).set (H.length+3) (eT 5)).drop H.length,?_⟩;apply Vv;intro i;by_cases hi:i<H.length
  . rw[Vd (by omega),Vd (by omega),h.low i (by simp; omega),Qks hi,Ve hi]
  . rw[Vh (by omega),Vs];congr 1; omega
 refine⟨?_,_,H,⟨rfl,rfl⟩,?_⟩
 . intro s hs;simp only[r11,Vi,VP,Wi]at hs;rcases hs with rfl|rfl
   . simp[RS.side,h6,rpt,e2]
   . simp[RS.side,h7,rpt,e3]
 . have hr:Qa7 env ((G.set (H.length+2) zT).set (H.length+3) (eT 5)) r11=.tup [.agg [i64 0,i64 0,nl,nl],i64 5]:=by
    simp[Qa7,r11,RS.ev,h6,h7,rpt,e2,e3]
   rw[hr,hL,he];refine Cv.le (Qi (r:=.tup [.agg [i64 0,i64 0,nl,nl],i64 5]) 3 hcl rfl (QaA rfl)) ?_;refine Qic (leL.cons (Qgh (leL.cons (SV.le.refl _) (leL.cons (SV.le.refl _) (leL.cons QdP (leL.cons QdP leL.nil))))) (leL.refl _))
end
end Go.Proofs.YtogjmpkehjfecaaGreatDoor.Rc
