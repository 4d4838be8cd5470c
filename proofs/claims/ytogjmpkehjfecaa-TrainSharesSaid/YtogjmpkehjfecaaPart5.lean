/- Steps of the proof. -/
import Derived.Test.YtogjmpkehjfecaaPart4
import Derived.Test.YtogjmpkehjfecaaPart3
import Derived.Test.YtogjmpkehjfecaaPart2
import Derived.Test.YtogjmpkehjfecaaCore5
set_option linter.all false
namespace Go.Proofs.Ytogjmpkehjfecaa.Rc
open Go.Ab Go.Ab.Shr
theorem Qm8 {f:Nat->Int} {x:Nat} {y:Int}:∀ n:Nat,Qe (put f x y) n=if x<n then Qe f n-f x+y else Qe f n
 |0=>by simp[Qe]
 |n+1=>by
  simp only[Qe,Qm8 n];unfold put;by_cases h:x<n
  . rw[Wb h,Wa (show ¬ n=x by omega),Wb (show x<n+1 by omega)]; omega
  . rw[Wa h];by_cases e:n=x
    . subst e; rw[Wb rfl,Wb (show n<n+1 by omega)]; omega
    . rw[Wa e,Wa (show ¬ x<n+1 by omega)]
theorem Qoq {n:Nat}:∀ (l:List Nat) (f:Nat->Int),(∀ x∈l,x<n)->Qe (Qam f l) n=Qe f n+l.length
 |[],f,_=>by simp[Qam]
 |x::l,f,h=>by
  simp only[Qam,VV];rw[Qoq l _ (λy hy=>h y (VO _ hy)),Qm8,Wb (h x (by simp))];omega
theorem Qlz {f g:Nat->Int}:∀ n:Nat,(∀ i,i<n->f i=g i)->Qe f n=Qe g n
 |0,_=>rfl
 |n+1,h=>by simp only[Qe]; rw[Qlz n (λi hi=>h i (by omega)),h n (by omega)]
theorem Qi0 {l:List Int} (hl:0<l.length):Qe (λk=>(Qp l).getD k 0) l.length=65536:=by
 have h:=QgK hl;have e:Qe (λk=>(Qp l).getD k 0) l.length=Qe (Qam (QC l (Qg l)) ((QD l).take (QO l).toNat)) l.length :=
  Qlz _ λk hk=>by simp[Qp,hk]
 rw[e,Qoq]
 . have h4:QO l=65536-Qe (QC l (Qg l)) l.length:=rfl;have h5:((QD l).take (QO l).toNat).length=(QO l).toNat:=by
    rw[Yy,QjX]; omega
   rw[h5]; omega
 . intro x hx;have hx:=V7 hx;unfold QD at hx;split at hx
   . exact Qe4.1 hx
   . exact VI.1 hx
theorem QoH {ws:List Int} (h:∀ w∈ws,1<=w/\w<=1000) (hl:ws.length<=60):∀ k,k<=ws.length->Qe (λk=>ws.getD k 0) k=wsK ws k
 |0,_=>rfl
 |k+1,hk=>by
  have h1:=QdV h hl k (by omega);have h2:=h _ (Vg (show k<ws.length by omega));have e:ws.getD k 0=ws[k]:=by simp[show k<ws.length by omega]
  simp only[Qe,wsK];rw[QoH h hl k (by omega),e,Qi (by omega) (by omega)]
def Qdn (g:Gm) (S:Nat->List Int):Prop:=∀ j,j<g.is.length->(∀ k,k<g.acts j->0<=(S j).getD k 0/\(S j).getD k 0<=65536)/\Qe (λk=>(S j).getD k 0) (g.acts j)=65536
section
variable {g:Gm} {M V R:List Int} {S A P:Nat->List Int}
theorem Qtj (hW:Wg g) {A:Nat->List Int} (hA:∀ j,j<g.is.length->(A j).length=g.acts j) (hS:∀ j,j<g.is.length->S j=Qp (A j)):Qdn g S:=by
 intro j hj;have ha:=Qby hW hj;have hl:=hA j hj;refine⟨λk hk=>by rw[hS j hj]; exact Qer (by omega),?_⟩;rw[hS j hj,<- hl];exact Qi0 (by omega)
theorem Qrn (hW:Wg g) (hS:Qdn g S) (hm:∀ i (h:i<g.ns.length),g.ns[i].k=1->M.getD i 0=Qbz g.ns[i].ws/\0<M.getD i 0) {i:Nat} (hi:i<g.ns.length) (h3:g.ns[i].k≠3) :
 (∀ k,k<g.ns[i].nx.length->0<=brP g S i k)/\Qe (brP g S i) g.ns[i].nx.length=brW g M i/\0<brW g M i/\brW g M i<=65536:=by
 have hx:g.ns[i]? = some g.ns[i]:=Vb hi;rcases Qej hW hi with h|h|h
 . obtain⟨a1,a2,a3,a4⟩:=QeO hW hi h;obtain⟨m1,m2⟩:=hm i hi h;have hws:=QdV a4 (by omega) g.ns[i].ws.length (Vc _);have eB:brW g M i=Qbz g.ns[i].ws:=by simp only[brW,hx,h]; exact m1
   have eP:brP g S i=λk=>g.ns[i].ws.getD k 0:=by funext k; simp only[brP,hx,h]; rfl
   rw[eB,eP];refine⟨λk hk => ?_,?_,by rw[<-m1]; exact m2,by unfold Qbz; omega⟩
   . have hw:=a4 _ (Vg (show k<g.ns[i].ws.length by omega));have e:g.ns[i].ws.getD k 0=g.ns[i].ws[k]:=by simp[show k<g.ns[i].ws.length by omega]
     simp only[e]; omega
   . rw[<-a1]; exact QoH a4 (by omega) _ (Vc _)
 . obtain⟨b1,b2,b3,b4,b5⟩:=QbD hW hi h;have eB:brW g M i=65536:=by simp[brW,hx,h]
   have eP:brP g S i=λk=>(S g.ns[i].i.toNat).getD k 0:=by funext k; simp[brP,hx,h]
   obtain⟨s1,s2⟩:=hS _ b1;rw[eB,eP];refine⟨λk hk=>(s1 k (by omega)).1,by rw[<-b3]; exact s2,by omega,by omega⟩
 . exact absurd h h3
theorem QlU {f:Nat->Int} {n:Nat} (h:∀ k,k<n->0<=f k):∀ m,m<=n->0<=Qe f m/\∀ d,m+d<=n->Qe f m<=Qe f (m+d):=by
 have step:∀ d m,m+d<=n->Qe f m<=Qe f (m+d):=by
  intro d
  induction d with
  |zero=>intro m _; exact V4 _
  |succ d ih =>
   intro m hm;have h1:=ih m (by omega);have h2:=h (m+d) (by omega);have e:Qe f (m+(d+1))=Qe f (m+d)+f (m+d):=rfl;omega
 intro m hm;refine⟨?_,λd hd=>step d m hd⟩;have:=step m 0 (by omega);rw[VZ]at this;exact this
theorem Qoa {v w B:Int} (hv : -B<=v/\v<=B) (hw:0<=w) : -(B*w)<=v*w/\v*w<=B*w:=by
 have h1:=Int.mul_le_mul_of_nonneg_right hv.2 hw;have h2:=Int.mul_le_mul_of_nonneg_right hv.1 hw;rw[Int.neg_mul]at h2;exact⟨h2,h1⟩
theorem Qne {a w B:Int} (hw:0<w) (h : -(B*w)<=a/\a<=B*w) : -B<=a.tdiv w/\a.tdiv w<=B:=by
 have key:∀ x:Int,0<=x->x<=B*w->0<=x.tdiv w/\x.tdiv w<=B:=λx hx hb=>by
  rw[ZN hx];exact⟨ZM hx (by omega),Int.ediv_le_of_le_mul hw hb⟩
 rcases Int.le_total 0 a with h0|h0
 . have:=key a h0 h.2; omega
 . have:=key (-a) (by omega) (by omega);have e:(-a).tdiv w = -(a.tdiv w):=Int.neg_tdiv ..;omega
theorem Qku (hW:Wg g) (hS:Qdn g S) (hV:QdH g M S V):∀ (m i q:Nat),g.ns.length-m<=i->i<g.ns.length->(q:Int)<g.pl -> -1024000000<=V.getD (i*4+q) 0/\V.getD (i*4+q) 0<=1024000000:=by
 intro m
 induction m with
 |zero=>intro i q h1 h2; omega
 |succ m ih =>
  intro i q h1 hi hq;have hx:g.ns[i]? = some g.ns[i]:=Vb hi;rw[hV.eq i q hi hq];simp only[Qbv,hx];by_cases h3:g.ns[i].k=3
  . rw[Wb h3];obtain⟨e1,e2,e3⟩:=Qfa hW hi h3;have hql:q<g.ns[i].ps.length:=by omega
    have:=e3 _ (Vg hql);have e:g.ns[i].ps.getD q 0=g.ns[i].ps[q]:=by simp[hql]
    rw[e,Qi (by omega) (by omega)];omega
  . rw[Wa h3];obtain⟨p1,p2,p3,p4⟩:=Qrn hW hS hV.m hi h3;have hm:=QlU p1;have acc:∀ k,k<=g.ns[i].nx.length -> -(1024000000*Qe (brP g S i) k)<=QV g S V g.ns[i].nx i q k/\QV g S V g.ns[i].nx i q k<=1024000000*Qe (brP g S i) k:=by
     intro k
     induction k with
     |zero=>intro _; simp[QV,Qe]
     |succ k ihk =>
      intro hk;have h1:=ihk (by omega);have hkl:k<g.ns[i].nx.length:=by omega
      have hch:=(hW.wf.nf i hi).ch _ (Vg hkl);have e:g.ns[i].nx.getD k 0=g.ns[i].nx[k]:=by simp[hkl]
      have hv:=ih g.ns[i].nx[k].toNat q (by omega) (by omega) hq;have hw:=p1 k hkl;have hb:=Qoa hv hw;have hs:=(hm (k+1) hk).2 (g.ns[i].nx.length-(k+1)) (by omega);rw[show k+1+(g.ns[i].nx.length-(k+1))=g.ns[i].nx.length by omega,p2]at hs;have hs0:=(hm k (by omega)).1;have es:Qe (brP g S i) (k+1)=Qe (brP g S i) k+brP g S i k:=rfl;simp only[QV];rw[e];generalize V.getD (g.ns[i].nx[k].toNat*4+q) 0*brP g S i k=x at *;generalize QV g S V g.ns[i].nx i q k=y at *;rw[es]at hs ⊢;generalize Qe (brP g S i) k=u at *;generalize brP g S i k=w at *;rw[show IntKind.i64.wrap x=x from Qi (by omega) (by omega),show IntKind.i64.wrap (y+x)=y+x from Qi (by omega) (by omega)];omega
    have ha:=acc g.ns[i].nx.length (Vc _);rw[p2]at ha;have ht:=Qne p3 ha;rw[Qi (by omega) (by omega)];exact ht
theorem QtH (hW:Wg g) (hS:Qdn g S) (hV:QdH g M S V) (hR:QfJ g false M S R) {i a:Nat} (hi:i<g.ns.length) (hk:g.ns[i].k=2) (ha:a<g.ns[i].nx.length) : -2048000000<=QaP g V R i a/\QaP g V R i a<=2048000000:=by
 have hx:g.ns[i]? = some g.ns[i]:=Vb hi;obtain⟨q0,q1⟩:=QeH hW hi hk;have hq:((g.ns[i].p.toNat:Nat):Int)<g.pl:=by omega
 have hch:=(hW.wf.nf i hi).ch _ (Vg ha);have e:g.ns[i].nx.getD a 0=g.ns[i].nx[a]:=by simp[ha]
 have v1:=Qku hW hS hV g.ns.length g.ns[i].nx[a].toNat g.ns[i].p.toNat (by omega) (by omega) hq;have v2:=Qku hW hS hV g.ns.length i g.ns[i].p.toNat (by omega) hi hq;have r:=Qi5 hW hR (λj hj=>(hS j hj).1) i i g.ns[i].p.toNat (Vc _) hi hq;simp only[QaP,hx];rw[e];generalize V.getD (g.ns[i].nx[a].toNat*4+g.ns[i].p.toNat) 0=x at *;generalize V.getD (i*4+g.ns[i].p.toNat) 0=y at *;generalize R.getD (i*4+g.ns[i].p.toNat) 0=z at *;have w1:IntKind.i64.wrap (x-y)=x-y:=Qi (by omega) (by omega);have hb:=Qoa (v:=x-y) (w:=z) (B:=2048000000) (by omega) r.1;rw[Zr (x-y) z]at hb;have hz:2048000000*z<=2048000000*1073741824:=by omega
 have w2:IntKind.i64.wrap (z*(x-y))=z*(x-y):=by
  generalize z*(x-y)=t at *;exact Qi (by omega) (by omega)
 rw[w1,w2];have ht:=Qne (a:=z*(x-y)) (w:=1073741824) (B:=2048000000) (by omega) (by
  generalize z*(x-y)=t at *;omega)
 generalize (z*(x-y)).tdiv 1073741824=t at *;rw[Qi (by omega) (by omega)];exact ht
theorem Qm0 (hW:Wg g) (hS:Qdn g S) (hV:QdH g M S V) (hR:QfJ g false M S R) {C:Int} (hC:0<=C) (hA:∀ j a,-C<=(A j).getD a 0/\(A j).getD a 0<=C) :
 ∀ i,i<=g.ns.length->C+2048000000*i<=4611686018427387904->∀ j a,-(C+2048000000*i)<=(Qay g V R A i j).getD a 0/\(Qay g V R A i j).getD a 0<=C+2048000000*i
 |0,_,_,j,a=>by have:=hA j a; simp only[Qay]; omega
 |i+1,hi,hb,j,a=>by
  have ih:=Qm0 hW hS hV hR hC hA i (by omega) (by omega);have hii:i<g.ns.length:=by omega
  have hx:g.ns[i]? = some g.ns[i]:=Vb hii;simp only[Qay,Qca,hx];by_cases hk:g.ns[i].k=2
  . rw[Wb hk];unfold upA;by_cases e:j=g.ns[i].i.toNat
    . rw[Wb e];by_cases ha:a<g.ns[i].nx.length
      . rw[Qcr ha];have h1:=ih g.ns[i].i.toNat a;have h2:=QtH hW hS hV hR hii hk ha;rw[Qi (by omega) (by omega)];omega
      . have:(Qf g.ns[i].nx.length λa=>IntKind.i64.wrap ((Qay g V R A i g.ns[i].i.toNat).getD a 0+QaP g V R i a)).getD a 0=0:=by simp[Qf,ha]
        rw[this]; omega
    . rw[Wa e];have:=ih j a;omega
  . rw[Wa hk];have:=ih j a;omega
end
def SBd (s:TS) (C D:Int):Prop:=(∀ j a,-C<=(s.A j).getD a 0/\(s.A j).getD a 0<=C)/\∀ j a,(s.P j).getD a 0<=D
section
variable {g:Gm} {s:TS}
theorem QgS (hW:Wg g) (h:SOk g s):Qdn g (shL s g.is.length).S:=Qtj hW h.A λj hj=>QeB s _ j hj
theorem Qmt (hW:Wg g) (h:SOk g s):QdH g (cTC g).M (shL s g.is.length).S (QgU g s):=Qq1 hW h.V (QnK hW) λ_ _=>rfl
theorem QlD (hW:Wg g) (h:SOk g s) {C D:Int} (hC:0<=C) (hD:0<=D) (hb:SBd s C D) (hCb:C+2048000000*g.ns.length<=4611686018427387904) (hDb:D+1073741824<=4611686018427387904):SBd (Qai g (cTC g) s) (C+2048000000*g.ns.length) (D+1073741824):=by
 refine⟨λj a => ?_,λj a => ?_⟩
 . rw[Qhi];exact Qm0 hW (QgS hW h) (Qmt hW h) (Qkb hW h.R) hC hb.1 g.ns.length (Vc _) hCb j a
 . rw[Qf6,QeW];by_cases hj:j<g.is.length
   . rw[Wb hj];by_cases ha:a<g.acts j
     . have ho:=QhI hW hj;obtain⟨hf,hF,_⟩:=Qd0 hW hj;have hO:=Qi5 hW (Qkb (s:=s) (own:=true) hW h.O) (λj hj=>(QgS hW h j hj).1) (frs g j) (frs g j) (Qab g j).toNat (Vc _) hf (by omega);have hs:=(QgS hW h j hj).1 a ha;have hpn:=h.pn j hj a;have hp2:=hb.2 j a;rw[Qcr ha];have eo:QbA g (cTC g).F (QaW g true s s.O) j=(QaW g true s s.O).getD (frs g j*4+(Qab g j).toNat) 0:=rfl;have hq:=Qht (a:=QbA g (cTC g).F (QaW g true s s.O) j) (p:=((shL s g.is.length).S j).getD a 0) (w:=65536) (by rw[eo]; exact hO) hs (by omega);have e3:QeZ (QbA g (cTC g).F (QaW g true s s.O) j) (((shL s g.is.length).S j).getD a 0)=qoF (QbA g (cTC g).F (QaW g true s s.O) j) (((shL s g.is.length).S j).getD a 0) 65536:=rfl;unfold QaG;rw[e3,Qi (by omega) (by omega)];omega
     . have:(Qf (g.acts j) (QaG (QbA g (cTC g).F (QaW g true s s.O) j) (s.P j) ((shL s g.is.length).S j))).getD a 0=0:=by
        simp[Qf,ha]
       rw[this];omega
   . rw[Wa hj];have:=hb.2 j a;omega
theorem Qng (hW:Wg g) (hn:g.ns.length<=60):∀ (m:Nat) (s:TS) (k:Nat),SOk g s->SBd s (2048000000*60*k) (1073741824*k)->s.rnd+m<=1000000->k+m<=200 ->
 ∃ s',Qbq g m s=some s'/\SOk g s'/\SBd s' (2048000000*60*(k+m:Nat)) (1073741824*(k+m:Nat))/\s'.rnd=s.rnd+m/\s'.seed=s.seed
 |0,s,k,h,hb,_,_=>⟨s,rfl,h,by simpa using hb,by simp,rfl⟩
 |m+1,s,k,h,hb,hr,hk=>by
  have h1:=QlD hW h (by omega) (by omega) hb (by omega) (by omega);have h2:SBd (Qai g (cTC g) s) (2048000000*60*(k+1:Nat)) (1073741824*(k+1:Nat)):=by
   refine⟨λj a => ?_,λj a => ?_⟩
   . have:=h1.1 j a; omega
   . have:=h1.2 j a; omega
  have ho:QaE g (Qai g (cTC g) s):=by
   intro i _ a _;have e1:=h2.1 i a;have e2:=h2.2 i a;unfold Qa5;omega
  have h3:=QmU hW h (by omega) ho;obtain⟨r1,r2⟩:=Qlg (g:=g) (s:=s);have hr0:=h.r0;rw[Qi (by omega) (by omega)]at r1;obtain⟨s',q1,q2,q3,q4,q5⟩:=Qng hW hn m _ (k+1) h3 h2 (by omega) (by omega);refine⟨s',?_,q2,by rw[show k+(m+1)=k+1+m by omega]; exact q3,by rw[q4,r1]; omega,by rw[q5,r2]⟩;simp only[Qbq];rw[Wb (QiN.2 ho)];exact q1
end
theorem Qkg:∀ (l:List Nat) (f:Nat->Int) (k:Nat),k∉l->Qam f l k=f k
 |[],f,k,_=>by simp[Qam]
 |x::l,f,k,h=>by
  simp only[Vi,not_or]at h;simp only[Qam];rw[Qkg l _ k h.2];unfold put;rw[Wa h.1]
theorem Qgu:∀ (l:List Nat) (f:Nat->Int) (k:Nat),k∈l->f k+1<=Qam f l k
 |x::l,f,k,h=>by
  simp only[Qam];by_cases e:k=x
  . subst e;have h1:=(QgJ l (put f k (f k+1)) k).1;unfold put at h1;rw[Wb rfl]at h1;exact h1
  . have h1:=Qgu l (put f x (f x+1)) k (by simpa[e]using h);have e2:put f x (f x+1) k=f k:=by unfold put; rw[Wa e]
    rw[e2]at h1;exact h1
theorem QlH:∀ (l:List Nat) (f:Nat->Int) (k:Nat),l.Nodup->Qam f l k<=f k+1
 |[],f,k,_=>by simp[Qam]; omega
 |x::l,f,k,h=>by
  rw[YW]at h;simp only[Qam];by_cases e:k=x
  . subst e;rw[Qkg l _ k h.1];unfold put;rw[Wb rfl];exact V4 _
  . have h1:=QlH l (put f x (f x+1)) k h.2;have e2:put f x (f x+1) k=f k:=by unfold put; rw[Wa e]
    rw[e2]at h1;exact h1
theorem Qns {r:Nat->Int}:∀ {l:List Nat},Ord r l->l.Nodup
 |[],_=>Zh
 |x::l,h=>by
  rw[YW];refine⟨λhx => ?_,Qns h.2⟩;rcases h.1 x hx with h|h<;>omega
theorem Qlh {r:Nat->Int}:∀ {l:List Nat} (m:Nat) {x y:Nat},Ord r l->x∈l.take m->y∈l.drop m->r y<=r x
 |[],m,x,y,_,hx,_=>by simp at hx
 |z::l,0,x,y,_,hx,_=>by simp at hx
 |z::l,m+1,x,y,h,hx,hy=>by
  simp only[List.take_succ_cons,Vi]at hx;simp only[Zn]at hy;rcases hx with rfl|hx
  . rcases h.1 y (Yx hy)with h|h<;>omega
  . exact Qlh m h.2 hx hy
theorem Qte (l:List Int):(QD l).Nodup:=by
 unfold QD;split
 . exact Qns (QhJ _)
 . exact List.nodup_range
theorem Qrs {l:List Int} {k:Nat}:k∈QD l↔k<l.length:=by
 unfold QD;split
 . exact Qe4
 . exact VI
def shT (l:List Int):Int:=if Qg l=0 then l.length else Qg l
def shC (l:List Int) (k:Nat):Int:=if Qg l=0 then 65536 else 65536*QaN (l.getD k 0)
theorem Qik {l:List Int} (h:0<l.length):0<shT l:=by
 have:=Qdt l;unfold shT;split<;>omega
theorem Qjo (l:List Int) (k:Nat):QC l (Qg l) k=shC l k / shT l:=by
 unfold shC shT;by_cases h:Qg l=0
 . rw[Wb h,Wb h]; unfold QC; rw[Wb h]
 . rw[Wa h,Wa h,Qja h]
theorem QkT {l:List Int} {k:Nat} (hk:k<l.length):(Qp l).getD k 0=Qam (QC l (Qg l)) ((QD l).take (QO l).toNat) k:=by simp[Qp,hk]
theorem Qtq (l:List Int):Qe (shC l) l.length=65536*shT l:=by
 by_cases h:Qg l=0
 . have e:Qe (shC l) l.length=Qe (λ_=>65536) l.length:=QfG _ λi _=>by unfold shC; rw[Wb h]
   rw[e,Qg5];unfold shT; rw[Wb h]; omega
 . have e:Qe (shC l) l.length=Qe (λi=>65536*QaN (l.getD i 0)) l.length:=QfG _ λi _=>by unfold shC; rw[Wa h]
   rw[e,Qe5];unfold shT; rw[Wa h];rfl
theorem QqK {l:List Int} {k:Nat} (hk:k<l.length) (hm:k∈(QD l).take (QO l).toNat):shC l k % shT l≠0:=by
 intro h0;have hl0:0<l.length:=by omega
 have hT:=Qik hl0;have hsum:=Qi0 hl0;have e1:Qe (λk=>shT l*(Qp l).getD k 0) l.length=shT l*65536:=by rw[Qe5,hsum]
 have key:∀ i,i<l.length->shC l i<=shT l*(Qp l).getD i 0:=by
  intro i hi;rw[QkT hi];have hf:=Qjo l i;have hd:=Zq (shC l i) (shT l);have hlt:=YO (shC l i) hT;have hnn:=Y3 (shC l i) (b:=shT l) (by omega);rw[<-hf]at hd;by_cases hi2:i∈(QD l).take (QO l).toNat
  . have h1:=Qgu _ (QC l (Qg l)) i hi2;have h2:=ZT h1 (ZU hT);rw[Zp,Int.mul_one]at h2;omega
  . have h1:=(QgJ ((QD l).take (QO l).toNat) (QC l (Qg l)) i).1;have h2:=ZT h1 (ZU hT);have hz:shC l i % shT l=0:=by
     have hio:i∈QD l:=Qrs.2 hi;rw[<-Yk (QO l).toNat (QD l),Vj]at hio;have hd2:i∈(QD l).drop (QO l).toNat:=by
      rcases hio with h|h
      . exact absurd h hi2
      . exact h
     by_cases ht:Qg l=0
     . have ea:shC l i=shC l k:=by unfold shC; rw[Wb ht,Wb ht]
       rw[ea]; exact h0
     . by_cases hb:0<Qg l/\0<QO l
       . have eo:QD l=QaA (Qa3 l (Qg l)) l.length:=by unfold QD; rw[Wb hb]
         rw[eo]at hm hd2;have:=Qlh _ (QhJ _) hm hd2;have er:∀ j,Qa3 l (Qg l) j=shC l j % shT l:=λj=>by unfold Qa3 shC shT; rw[Wa ht,Wa ht]
         rw[er,er,h0]at this;omega
       . have:=Qdt l;have hlf:(QO l).toNat=0:=by omega
         rw[hlf]at hm;simp at hm
    omega
 have hk2:shC l k+1<=shT l*(Qp l).getD k 0:=by
  rw[QkT hk];have hf:=Qjo l k;have hd:=Zq (shC l k) (shT l);rw[<-hf]at hd;have h1:=Qgu _ (QC l (Qg l)) k hm;have h2:=ZT h1 (ZU hT);rw[Zp,Int.mul_one]at h2;omega
 have h1:Qe (λi=>shC l i) l.length+1<=Qe (λi=>shT l*(Qp l).getD i 0) l.length:=by
  have h2:=Qgs (f:=λi=>if i<l.length then shT l*(Qp l).getD i 0-shC l i else 0) (λi=>by
   by_cases hi:i<l.length
   . rw[Wb hi]; have:=key i hi; omega
   . rw[Wa hi]; exact V4 _) l.length k hk
  have h3:Qe (λi=>if i<l.length then shT l*(Qp l).getD i 0-shC l i else 0) l.length=Qe (λi=>shT l*(Qp l).getD i 0+(-1)*shC l i) l.length:=QfG _ λi hi=>by
   rw[Wb hi]; omega
  have h4:Qe (λi=>shT l*(Qp l).getD i 0+(-1)*shC l i) l.length=Qe (λi=>shT l*(Qp l).getD i 0) l.length+Qe (λi=>(-1)*shC l i) l.length:=Qjj _ _ _;have h5:Qe (λi=>(-1)*shC l i) l.length=(-1)*Qe (shC l) l.length:=Qe5 _ _ _;have h6:(if k<l.length then shT l*(Qp l).getD k 0-shC l k else 0)=shT l*(Qp l).getD k 0-shC l k:=Wb hk;have h7:=h2.1;simp only[h6]at h7;have h8:Qe (λi=>shC l i) l.length=Qe (shC l) l.length:=rfl;omega
 have h2:=Qtq l;have h3:Qe (λi=>shC l i) l.length=Qe (shC l) l.length:=rfl;rw[h3,h2,e1,Zr]at h1;omega
theorem QlG {l:List Int} {k:Nat} (hk:k<l.length):shC l k-shT l<shT l*(Qp l).getD k 0/\shT l*(Qp l).getD k 0<shC l k+shT l:=by
 have hT:=Qik (l:=l) (by omega);have hf:=Qjo l k;have hd:=Zq (shC l k) (shT l);have hlt:=YO (shC l k) hT;have hnn:=Y3 (shC l k) (b:=shT l) (by omega);rw[<-hf]at hd;rw[QkT hk];by_cases hm:k∈(QD l).take (QO l).toNat
 . have h0:=QqK hk hm;have h1:=Qgu _ (QC l (Qg l)) k hm;have h2:=QlH ((QD l).take (QO l).toNat) (QC l (Qg l)) k ((Qte l).sublist (List.take_sublist _ _));have e:Qam (QC l (Qg l)) ((QD l).take (QO l).toNat) k=QC l (Qg l) k+1:=by omega
   rw[e,Zp,Int.mul_one];omega
 . rw[Qkg _ _ k hm];omega
theorem Qs1 {l:List Int} {k:Nat} (hk:k<l.length) (ht:0<Qg l) (hx:l.getD k 0<=0):(Qp l).getD k 0=0:=by
 obtain⟨h1,h2⟩:=QlG hk;have h3:=(Qer hk).1;have hT:=Qik (l:=l) (by omega);have hc:shC l k=0:=by
  unfold shC QaN;rw[Wa (by omega),show max (l.getD k 0) 0=0 by omega];rfl
 rw[hc]at h2;by_cases e:(Qp l).getD k 0=0
 . exact e
 . have h4:shT l*1<=shT l*(Qp l).getD k 0:=ZT (by omega) (ZU hT);omega
theorem Qpc {S:Nat} (hS:0<S):low false 0 S=⟨false,0,1⟩:=by
 have hd:S / S=1:=Nat.div_self hS;simp[low,hd]
theorem QiK (s:Nat):low false s 1=⟨false,s,1⟩:=by simp[low]
theorem QnY {x S:Nat} (hS:0<S) (hx:x<S):(low false x S).ord QdC<0:=by
 obtain⟨g,p,ex,es,d,_⟩:=Qkk x hS;have n1:(low false x S).neg=false:=rfl;have hlt:(low false x S).n<(low false x S).d:=Nat.lt_of_mul_lt_mul_left (a:=g) (by rw[<-ex,<- es]; exact hx);generalize hq:low false x S=q at *;have em:QdC.mi=⟨true,1,1⟩:=rfl;have ep:q.plus QdC.mi=low true (q.d-q.n) q.d:=by
  rw[em];unfold Qr.plus;rw[n1,Wa (by simp)];simp only[Yc,Y7];rw[Wa (by omega)]
 unfold Qr.ord;rw[ep];have hg:Nat.gcd (q.d-q.n) q.d<=q.d-q.n:=Nat.le_of_dvd (by omega) (ZQ _ _);have hgp:0<Nat.gcd (q.d-q.n) q.d:=Y8 _ d;have hn0:(low true (q.d-q.n) q.d).n≠0:=by
  have:0<(q.d-q.n) / Nat.gcd (q.d-q.n) q.d:=Nat.div_pos hg hgp;simp only[low];omega
 have hng:(low true (q.d-q.n) q.d).neg=true:=by
  simp only[low,Bool.true_and,Wd];omega
 rw[Wa hn0,Wb hng];decide
theorem Qow (neg:Bool) (n d:Nat):(low neg n d).sz=low false n d:=by
 simp[Qr.sz,low]
theorem Qpt {s c T:Nat} (hT:0<T) (h1:c<T*s+T) (h2:T*s<c+T):(((low false s 1).plus (low false c T).mi).sz).ord QdC<0:=by
 obtain⟨g,p,ec,eT,d0,_⟩:=Qkk c hT;have n1:(low false c T).neg=false:=rfl;rw[QiK];generalize (low false c T)=q at *;have a1:q.n<q.d*s+q.d:=by
  refine Nat.lt_of_mul_lt_mul_left (a:=g) ?_;rw[Ym,<- ec,<- Yn,<- eT];exact h1
 have a2:q.d*s<q.n+q.d:=by
  refine Nat.lt_of_mul_lt_mul_left (a:=g) ?_;rw[Ym,<- ec,<- Yn,<- eT];exact h2
 by_cases h0:q.n=0
 . have hs:s=0:=by
    rw[h0,VZ]at a2;rcases Yp s with h|h
    . exact h
    . have:=YM q.d h; omega
   have em:q.mi=⟨false,0,q.d⟩:=by simp[Qr.mi,h0]
   rw[em,hs];have ep:(Qr.mk false 0 1).plus ⟨false,0,q.d⟩=⟨false,0,1⟩:=by
    unfold Qr.plus;rw[Wb rfl];simp only[Yb,Yd,Y7];exact Qpc d0
   rw[ep];decide
 . have em:q.mi=⟨true,q.n,q.d⟩:=by
    have:0<q.n:=by omega
    simp[Qr.mi,n1,this]
   rw[em];have hc:q.d*s=s*q.d:=VT _ _;unfold Qr.plus;rw[Wa (by simp)];simp only[Yc,Y7];by_cases hle:q.n<=s*q.d
   . rw[Wb hle,Qow];exact QnY d0 (by omega)
   . rw[Wa hle,Qow];exact QnY d0 (by omega)
theorem Qql (x T c:Nat) (hT:0<T):(low false x T).times (low false c 1)=low false (x*c) T:=by
 obtain⟨g,p,ex,eT,d0,_⟩:=Qkk x hT;rw[QiK];have n1:(low false x T).neg=false:=rfl;unfold Qr.times;rw[n1];generalize (low false x T).n=n at *;generalize (low false x T).d=d at *;refine Qo9 false (by simpa using d0) hT ?_;rw[ex,eT];simp only[Yc]
 ac_rfl
section
variable {g:Gm}
theorem QlQ (hW:Wg g) {pl:Int} {p i:Nat} (hp:p<g.ns.length) (hi:i<g.ns[p].nx.length) {c:Nat} (hc:g.ns[p].nx[i]=c) :
 g.way c pl=if g.ns[p].k=2/\g.ns[p].p=pl then g.way p pl++[(g.ns[p].i,(i:Int))]else g.way p pl:=by
 have hn:=hW.wf.nf p hp;have hmem:(c:Int)∈g.ns[p].nx:=by rw[<-hc]; exact Vg hi
 obtain⟨c1,c2,c3,c4⟩:=hn.ch _ hmem;obtain⟨k,hk,e1,e2,e3⟩:=Quy hn.inc hmem;have ek:i=k:=e3 i hi hc;subst ek;have hcl:c<g.ns.length:=by omega
 have hP:gi g.wk.2.P c=p:=by simpa using c3
 obtain⟨n,hnn⟩:∃ n,g.ns.length=n+1:=⟨g.ns.length-1,by omega⟩;have h1:g.up c pl=upf g pl (n+1) c []:=by unfold Gm.up; rw[hnn]; rfl
 have h2:g.up p pl=upf g pl (n+1) p []:=by unfold Gm.up; rw[hnn]; rfl
 unfold Gm.way;rw[h1,h2];unfold upf;rw[Qgc hW hp hP];have h3:=QnT hW (pl:=pl) n (n+1) p [] (by omega) (by omega) hp;have h4:=λl=>Qm9 hW (pl:=pl) n p l (by omega) hp;unfold upf at h3 h4;by_cases hc2:g.ns[p].k=2/\g.ns[p].p=pl
 . rw[Wb hc2,Wb hc2,h4,e2,h3];simp
 . rw[Wa hc2,Wa hc2,h3]
end
theorem Qkj {s:Nat}:∀ {l:List Nd} {o:Nat} {a:Int},a∈occ s l o->∃ t,∃ ht:t<l.length,a=((o+t:Nat):Int)/\l[t].k=2/\l[t].i.toNat=s
 |[],o,a,h=>by simp[occ]at h
 |x::r,o,a,h=>by
  unfold occ at h;split at h
  . rename_i hc;rcases Vi.1 h with rfl|h
    . exact⟨0,by simp,by simp,hc.1,hc.2⟩
    . obtain⟨t,ht,e,h1,h2⟩:=Qkj h;exact⟨t+1,by simpa using ht,by rw[e]; congr 1; omega,by simpa using h1,by simpa using h2⟩
  . obtain⟨t,ht,e,h1,h2⟩:=Qkj h;exact⟨t+1,by simpa using ht,by rw[e]; congr 1; omega,by simpa using h1,by simpa using h2⟩
section
variable {g:Gm} {lvs:Nat->Int} {V:Nat->Option (Int×Int×List Int)} {gs:List Gh}
theorem Rcl.par (hW:Wg g) (h:Rcl g lvs V gs) {b:Nat} (hb:0<b) (hl:b<g.ns.length) {z:Gh} (hz:gs[b]? = some z) :
 ∃ (a:Nat) (ha:a<g.ns.length) (k:Nat) (hk:k<g.ns[a].nx.length) (y:Gh),g.ns[a].nx[k]=(b:Int)/\gs[a]? = some y/\QeP y.sn z.sn g.ns[a].mvr k/\z.lv=y.lv+1:=by
 obtain⟨a,ha,h1,h2,h3⟩:=hW.wf.pf b hb hl;obtain⟨k,hk,h4⟩:=VX h3;have hal:a<gs.length:=by rw[h.len]; exact ha
 obtain⟨m,z',e1,e2,e3,e4⟩:=h.edge a g.ns[a] gs[a] (Vb ha) (Vb hal) k b (by rw[Vb hk,h4]);have:m=b:=by omega
 subst this;rw[hz]at e2
 cases e2
 exact⟨a,ha,k,hk,gs[a],h4,Vb hal,e3,e4⟩
theorem Rcl.ways (hW:Wg g) (h:Rcl g lvs V gs) {q:Nat}:∀ (n a b:Nat) (ya yb:Gh) (s:List Int),a<g.ns.length->b<g.ns.length->gs[a]? = some ya->gs[b]? = some yb->ya.lv=n->yb.lv=n->ya.sn[q]? = some s->yb.sn[q]? = some s->g.way a q=g.way b q:=by
 intro n;have h0:∀ (b:Nat) (y:Gh),b<g.ns.length->gs[b]? = some y->y.lv=0->b=0:=by
  intro b y hb hy hl;rcases Yp b with e|e
  . exact e
  . obtain⟨_,_,_,_,_,_,_,_,e4⟩:=h.par hW e hb hy;omega
 have h1:∀ (b:Nat) (y:Gh),gs[b]? = some y->0<y.lv->0<b:=by
  intro b y hy hl;rcases Yp b with e|e
  . subst e; rw[h.root]at hy; cases hy; simp at hl
  . exact e
 induction n with
 |zero =>
  intro a b ya yb s ha hb hya hyb la lb _ _;rw[h0 a ya ha hya la,h0 b yb hb hyb lb]
 |succ n ih =>
  intro a b ya yb s ha hb hya hyb la lb sa sb;obtain⟨pa,hpa,ka,hka,za,na,gza,ra,va⟩:=h.par hW (h1 a ya hya (by omega)) ha hya;obtain⟨pb,hpb,kb,hkb,zb,nb,gzb,rb,vb⟩:=h.par hW (h1 b yb hyb (by omega)) hb hyb;have qa:q<za.sn.length:=by rw[<-ra.1]; exact Qb sa
  have qb:q<zb.sn.length:=by rw[<-rb.1]; exact Qb sb
  obtain⟨ea,ea1,ea2⟩:=ra.2 q qa;obtain⟨eb,eb1,eb2⟩:=rb.2 q qb;rw[sa]at ea1;rw[sb]at eb1;simp only[Option.some.injEq]at ea1 eb1;have hc:=ea1.symm.trans eb1;obtain⟨c1,c2⟩:=List.append_inj' hc rfl;have c2:ea=eb:=by simpa using c2
  have hi:=ih pa pb za zb za.sn[q] hpa hpb gza gzb (by omega) (by omega) (Vb qa) (by rw[Vb qb,c1]);rw[QlQ hW hpa hka na,QlQ hW hpb hkb nb,hi];obtain⟨fa2,fa1⟩:=h.fit pa g.ns[pa] za (Vb hpa) gza;obtain⟨fb2,fb1⟩:=h.fit pb g.ns[pb] zb (Vb hpb) gzb;have hlv:za.lv=zb.lv:=by omega
  have key:∀ (p:Nat) (hp:p<g.ns.length) (k:Nat) (hk:k<g.ns[p].nx.length),(g.ns[p].k=2->lvs za.lv=g.ns[p].p)->(g.ns[p].k=1->lvs za.lv<0)->((g.ns[p].k=2/\g.ns[p].p=q)↔lvs za.lv=q):=by
   intro p hp k hk f2 f1;rcases Qej hW hp with k1|k2|k3
   . have:=f1 k1;constructor
     . rintro⟨e,_⟩; omega
     . intro e; omega
   . have:=f2 k2;constructor
     . rintro⟨_,e⟩; omega
     . intro e; exact⟨k2,by omega⟩
   . rw[(Qfa hW hp k3).1]at hk; simp at hk
  have Ka:=key pa hpa ka hka (λe=>(fa2 e).1) fa1;have Kb:=key pb hpb kb hkb (λe=>by rw[hlv]; exact(fb2 e).1) (λe=>by rw[hlv]; exact fb1 e);by_cases hq:lvs za.lv=q
  . have ha2:=Ka.2 hq;have hb2:=Kb.2 hq;rw[Wb ha2,Wb hb2];obtain⟨_,i0,p0,s1,s2,s3⟩:=fa2 ha2.1;obtain⟨_,j0,q0,t1,t2,t3⟩:=fb2 hb2.1;have e1:g.ns[pa].p.toNat=q:=by omega
    have e2:g.ns[pb].p.toNat=q:=by omega
    rw[e1,Vb qa]at s2;rw[e2,Vb qb]at t2;simp only[Option.some.injEq]at s2 t2;have ei:g.ns[pa].i.toNat=g.ns[pb].i.toNat:=by
     refine h.un _ _ _ s3 ?_;rw[t3,<- s2,<- t2,c1,hlv,ha2.2,hb2.2]
    have ek:(ka:Int)=kb:=by
     rw[<-ea2 (by unfold Nd.mvr; rw[Wb ha2.1]; exact ha2.2.symm),<- eb2 (by unfold Nd.mvr; rw[Wb hb2.1]; exact hb2.2.symm),c2]
    have ei2:g.ns[pa].i=g.ns[pb].i:=by omega
    rw[ei2,ek]
  . rw[Wa (λe=>hq (Ka.1 e)),Wa (λe=>hq (Kb.1 e))]
theorem Rcl.perf (hW:Wg g) (h:Rcl g lvs V gs) (hi:∀ x∈g.ns,x.k=2->∃ n,g.is[x.i.toNat]? = some (x.p,n)) {q:Nat}:g.perf q=true:=by
 unfold Gm.perf;rw[QnA hW g.is.length 0 (by omega)];rintro t _ ht hp ⟨hs,ht',v,hv,hne⟩;apply hne;have hne0:g.sets[t]≠[]:=hW.ne t hs;have hh:g.sets[t].headD 0∈g.sets[t]:=by
  cases hc:g.sets[t]with
  |nil=>exact absurd hc hne0
  |cons u l=>simp
 have key:∀ w∈g.sets[t],∃ (y:Gh) (s:List Int),w.toNat<g.ns.length/\gs[w.toNat]? = some y/\y.sn[q]? = some s/\V t=some ((q:Int),(y.lv:Int),s):=by
  intro w hw;obtain⟨hr1,hr2⟩:=QoJ hs hw;rw[QgX hs]at hw;have hwn:w.toNat<g.ns.length:=by omega
  obtain⟨a1,a2⟩:g.ns[w.toNat].k=2/\g.ns[w.toNat].i.toNat=t:=by
   obtain⟨u,hu,e,b1,b2⟩:=Qkj hw;have:w.toNat=u:=by omega
   subst this;exact⟨b1,b2⟩
  have hgl:w.toNat<gs.length:=by rw[h.len]; exact hwn
  obtain⟨f2,_⟩:=h.fit _ _ _ (Vb hwn) (Vb hgl);obtain⟨_,i0,p0,s,s1,s2⟩:=f2 a1;obtain⟨n,hn⟩:=hi _ (Vg hwn) a1;rw[a2,Vb ht]at hn;have hn:g.is[t]=(g.ns[w.toNat].p,n):=by simpa using hn
  have e:g.ns[w.toNat].p=q:=by rw[hn]at hp; exact hp
  rw[a2,e]at s2;have e3:g.ns[w.toNat].p.toNat=q:=by omega
  rw[e3]at s1;exact⟨_,s,hwn,Vb hgl,s1,s2⟩
 obtain⟨y,s,k1,k2,k3,k4⟩:=key v hv;obtain⟨y',s',l1,l2,l3,l4⟩:=key _ hh;rw[k4]at l4;simp only[Option.some.injEq,Prod.mk.injEq,true_and]at l4;rw[hp];exact h.ways hW y.lv _ _ y y' s k1 l1 k2 l2 rfl (by omega) k3 (by rw[l4.2]; exact l3)
theorem Rcl.prp (hW:Wg g) (hf:g.formE=0) (h:Rcl g lvs V gs) (hi:∀ x∈g.ns,x.k=2->∃ n,g.is[x.i.toNat]? = some (x.p,n)):g.prpE=0:=by
 unfold Gm.prpE;rw[Wa (by simpa using hf),Qgj];intro j _ _;unfold Qcv;rw[Wb (h.perf hW hi)]
end
end Go.Proofs.Ytogjmpkehjfecaa.Rc
namespace Go.Proofs.Ytogjmpkehjfecaa.Rc
open Go.Ab
theorem QoR (w:Nat->Int->Option Nat×Int):∀ (a b:List Int) (r:Nat) (m:Int),QbB w (a++b) r m=(match QbB w a r m with|(none,m)=>(none,m)|(some r,m)=>QbB w b r m)
 |[],b,r,m=>by simp[QbB]
 |c::a,b,r,m=>by
  simp only[V0,QbB];by_cases hc:c=r
  . rw[Wb hc,Wb hc]
    cases hh:w r m with
    |mk o m1 =>
     cases o with
     |none=>rfl
     |some r1=>exact QoR w a b r1 m1
  . rw[Wa hc,Wa hc]
def Wlk (b h:Nat) (sub:List Nd):Prop:=∀ (pre post:List Nd) (f:Nat) (dep m:Int),pre.length=b->sub.length<=f ->
 ∃ m',Qcg (pre++(sub++post)) f dep b m=(some (b+sub.length),m')/\m'<=max m (dep+h)
def Kds (b h:Nat) (nx:List Int) (subs:List Nd):Prop:=∀ (pre post:List Nd) (f:Nat) (dep m:Int),pre.length=b->subs.length<=f ->
 ∃ m',QbB (Qcg (pre++(subs++post)) f dep) nx b m=(some (b+subs.length),m')/\m'<=max m (dep+h)
theorem Kds.nil (b h:Nat):Kds b h [] []:=λpre post f dep m _ _=>⟨m,by simp[QbB],by omega⟩
theorem Kds.snoc {b h c:Nat} {nx:List Int} {subs sub:List Nd} (hk:Kds b h nx subs) (hw:Wlk c h sub) (hc:c=b+subs.length):Kds b h (nx++[(c:Int)]) (subs++sub):=by
 subst hc;intro pre post f dep m hb hf;obtain⟨m1,h1,h2⟩:=hk pre (sub++post) f dep m hb (by simp at hf; omega);obtain⟨m2,h3,h4⟩:=hw (pre++subs) post f dep m1 (by simp[hb]) (by simp at hf; omega);refine⟨m2,?_,by omega⟩;rw[QoR];have e:pre++(subs++sub++post)=pre++(subs++(sub++post)):=by simp
 rw[e,h1];simp only[QbB];have e2:pre++(subs++(sub++post))=pre++subs++(sub++post):=by simp
 rw[Wb trivial,e2,h3];simp[Yf]
theorem Wlk.node {b h:Nat} {x:Nd} {subs:List Nd} (hk:Kds (b+1) h x.nx subs):Wlk b (h+1) (x::subs):=by
 intro pre post f dep m hb hf;obtain⟨f,rfl⟩:∃ g,f=g+1:=⟨f-1,by simp at hf; omega⟩;obtain⟨m1,h1,h2⟩:=hk (pre++[x]) post f (dep+1) (max m dep) (by simp[hb]) (by simp at hf; omega);refine⟨m1,?_,by omega⟩;have e:pre++(x::subs++post)=pre++[x]++(subs++post):=by simp
 have e1:(pre++[x]++(subs++post))[b]? = some x:=by
  subst hb; simp
 rw[e,Qcg,e1];simp only;rw[h1];simp; omega
theorem Wlk.leaf (b h:Nat) {x:Nd} (hx:x.nx=[]):Wlk b h [x]:=by
 intro pre post f dep m hb hf;obtain⟨f,rfl⟩:∃ g,f=g+1:=⟨f-1,by simp at hf; omega⟩;refine⟨max m dep,?_,by omega⟩;have e1:(pre++([x]++post))[b]? = some x:=by
  subst hb; simp
 rw[Qcg,e1];simp[hx,QbB]
theorem Wlk.mono {b h h':Nat} {sub:List Nd} (hw:Wlk b h sub) (hh:h<=h'):Wlk b h' sub:=by
 intro pre post f dep m hb hf;obtain⟨m1,h1,h2⟩:=hw pre post f dep m hb hf;exact⟨m1,h1,by omega⟩
def rg:List Nd->Nat->Option Nat
 |[],c=>some c
 |x::r,c=>if x.k=2 then(if x.i=c then rg r (c+1)else if 0<=x.i/\x.i<c then rg r c else none)else rg r c
theorem Qhw:∀ (a b:List Nd) (c:Nat),rg (a++b) c=(rg a c).bind (rg b)
 |[],b,c=>by simp[rg]
 |x::a,b,c=>by
  simp only[V0,rg];split
  . split
    . exact Qhw a b _
    . split
      . exact Qhw a b _
      . rfl
  . exact Qhw a b _
theorem Qgh:∀ {l:List Nd} {o c c':Nat},rg l c=some c'->(∀ s,c<=s->s<c'->occ s l o≠[])/\∀ s t,c<=s->s<t->t<c'->(occ s l o).headD 0<(occ t l o).headD 0
 |[],o,c,c',h=>by simp[rg]at h; subst h; exact⟨λs h1 h2=>by omega,λs t h1 h2 h3=>by omega⟩
 |x::r,o,c,c',h=>by
  simp only[rg]at h;by_cases hk:x.k=2
  . rw[Wb hk]at h;by_cases hi:x.i=c
    . rw[Wb hi]at h;obtain⟨h1,h2⟩:=Qgh (o:=o+1) h;have e0:occ c (x::r) o=(o:Int)::occ c r (o+1):=by rw[occ]; rw[Wb ⟨hk,by omega⟩]
      have e1:∀ s,c<s->occ s (x::r) o=occ s r (o+1):=λs hs=>by rw[occ]; rw[Wa]; rintro⟨_,h⟩; omega
      refine⟨λs h3 h4 => ?_,λs t h3 h4 h5 => ?_⟩
      . by_cases hs:s=c
        . subst hs; rw[e0]; simp
        . rw[e1 s (by omega)]; exact h1 s (by omega) h4
      . by_cases hs:s=c
        . subst hs;rw[e0,e1 t h4];have hne:=h1 t (by omega) h5
          cases ho:occ t r (o+1)with
          |nil=>exact absurd ho hne
          |cons a q =>
           have:a∈occ t r (o+1):=by rw[ho]; simp
           have:=occ_lo this;simp only[List.headD_cons]; omega
        . rw[e1 s (by omega),e1 t (by omega)]; exact h2 s t (by omega) h4 h5
    . rw[Wa hi]at h;by_cases hj:0<=x.i/\x.i<c
      . rw[Wb hj]at h;obtain⟨h1,h2⟩:=Qgh (o:=o+1) h;have e1:∀ s,c<=s->occ s (x::r) o=occ s r (o+1):=λs hs=>by rw[occ]; rw[Wa]; rintro⟨_,h⟩; omega
        exact⟨λs h3 h4=>by rw[e1 s h3]; exact h1 s h3 h4,λs t h3 h4 h5=>by rw[e1 s h3,e1 t (by omega)]; exact h2 s t h3 h4 h5⟩
      . rw[Wa hj]at h; cases h
  . rw[Wa hk]at h;obtain⟨h1,h2⟩:=Qgh (o:=o+1) h;have e1:∀ s,occ s (x::r) o=occ s r (o+1):=λs=>by rw[occ]; rw[Wa]; rintro⟨h,_⟩; exact hk h
    exact⟨λs h3 h4=>by rw[e1 s]; exact h1 s h3 h4,λs t h3 h4 h5=>by rw[e1 s,e1 t]; exact h2 s t h3 h4 h5⟩
where
 occ_lo:∀ {s:Nat} {l:List Nd} {o:Nat} {a:Int},a∈occ s l o->(o:Int)<=a
  |s,[],o,a,h=>by simp[occ]at h
  |s,x::r,o,a,h=>by
   unfold occ at h;split at h
   . rcases Vi.1 h with rfl|h
     . omega
     . have:=occ_lo h; omega
   . have:=occ_lo h; omega
def Nd.good (x:Nd) (pl:Int) (is:List (Int×Int)):Prop :=
 (x.k=1/\x.p=0/\x.i=0/\x.ps=[]/\1<=x.nx.length/\x.nx.length<=60/\x.ws.length=x.nx.length/\∀ w∈x.ws,1<=w/\w<=1000) \/
 (x.k=2/\x.ws=[]/\x.ps=[]/\1<=x.nx.length/\x.nx.length<=10/\0<=x.p/\x.p<pl/\0<=x.i/\is[x.i.toNat]? = some (x.p,(x.nx.length:Int))) \/
 (x.k=3/\x.p=0/\x.i=0/\x.nx=[]/\x.ws=[]/\(x.ps.length:Int)=pl/\∀ w∈x.ps,-1000000<=w/\w<=1000000)
theorem Nd.good.app {x:Nd} {pl:Int} {is:List (Int×Int)} (h:x.good pl is) (l:List (Int×Int)):x.good pl (is++l):=by
 rcases h with h|⟨a1,a2,a3,a4,a5,a6,a7,a8,a9⟩|h
 . exact .inl h
 . exact .inr (.inl ⟨a1,a2,a3,a4,a5,a6,a7,a8,by rw[Vd (Qb a9)]; exact a9⟩)
 . exact .inr (.inr h)
theorem QmK {lo hi:Int} {l:List Int} (h:∀ w∈l,lo<=w/\w<=hi):QaC lo hi l=0 :=
 QsA λj hj _=>by have:=h _ (Vg hj); simp only[QaO,Bool.or_eq_false_iff,Wo]; omega
theorem Nd.good.err {x:Nd} {g:Gm} (h:x.good g.pl g.is):x.err g=0:=by
 rcases h with ⟨a1,a2,a3,a4,a5,a6,a7,a8⟩|⟨a1,a2,a3,a4,a5,a6,a7,a8,a9⟩|⟨a1,a2,a3,a4,a5,a6,a7⟩
 . unfold Nd.err;rw[Wa (by omega),Wb a1];unfold Nd.chance;rw[Wa (by rw[a4]; simp only[Ys]; omega),QmK a8]
 . have:=Qb a9;unfold Nd.err;rw[Wa (by omega),Wa (by omega),Wb a1];unfold Nd.move;rw[Wa (by rw[a2,a3]; simp only[Ys]; omega),Qea,Qea,Wa (by omega),Wa (by omega)]
 . unfold Nd.err;rw[Wa (by omega),Wa (by omega),Wa (by omega)];unfold Nd.end;rw[Wa (by rw[a4,a5]; simp only[Ys]; omega),QmK a7]
theorem Qm7 {g:Gm}:∀ {l:List Nd},(∀ x∈l,x.err g=0)->QaI g l=0
 |[],_=>rfl
 |x::r,h=>by
  unfold QaI;rw[Wb (h x (by simp))];exact Qm7 λy hy=>h y (by simp[hy])
theorem QtJ {g:Gm} {h:Nat} (p1:1<=g.pl) (p4:g.pl<=4) (n1:1<=g.ns.length) (n2:g.ns.length<=2000) (i2:g.is.length<=200) (hw:Wlk 0 h g.ns) (hh:h<=40)
 (hx:∀ x∈g.ns,x.good g.pl g.is) (hr:rg g.ns 0=some g.is.length):g.formE=0:=by
 rw[Qqm];unfold Gm.formR;rw[Wa (by unfold Gm.rng; omega),Qm7 λx h=>(hx x h).err];obtain⟨m,h1,h2⟩:=hw [] [] (g.ns.length+1) 0 0 rfl (by omega);simp only[Ye,VQ,VZ]at h1;have e:g.wr=(some g.ns.length,m):=h1;rw[Wa (by simp),e,Wa (by simp),Wa (by simp only; omega)];unfold Gm.setsR;obtain⟨h3,h4⟩:=Qgh (o:=0) hr;have hs:∀ k,k<g.sets.length->g.sets.getD k []=occ k g.ns 0:=λk hk=>Qft (by rw[<-Qcu]; exact hk);rw[Wa,Wa,Wb]
 . intro k hk;have hl:k+1<g.sets.length:=by omega
   rw[hs k (by omega),hs (k+1) hl];have:=h4 k (k+1) (by omega) (by omega) (by rw[<-Qcu]; exact hl);rw[<-Qcu]at h3;have a:=h3 k (by omega) (by omega);have b:=h3 (k+1) (by omega) hl
   cases ha:occ k g.ns 0 with
   |nil=>exact absurd ha a
   |cons u l =>
    cases hb:occ (k+1) g.ns 0 with
    |nil=>exact absurd hb b
    |cons v l'=>rw[ha,hb]at this; simp at this ⊢; omega
 . intro hm;obtain⟨k,hk,e⟩:=VX hm;have:=hs k hk;rw[Vr,Vb hk,V6,e]at this;exact h3 k (by omega) (by rw[<-Qcu]; exact hk) this.symm
 . rintro⟨x,hxm,hk,hne⟩;rcases hx x hxm with h|h|h
   . omega
   . exact hne h.2.2.2.2.2.2.2.2
   . omega
theorem QmT {H:Wu} {j:Nat} (hj:j<H.length) (c:Wv) (T:Wy) (v:Nat):Qd (H.set j ⟨c,T,v,true⟩) j v=c:=by
 unfold Qd; rw[Vh hj]; simp
section
variable {H G:Wu}
theorem Qj2 (x n:Int) (hn:0<n) (hn2:n<=9223372036854775807):Ok Try.prog 12 [i64 x,i64 n] H (.ret (i64 (x % n))) H:=by
 refine Qq hm Try.func12 c12 (by simp) λhcl => ?_;simp -implicitDefEqProofs[i12,r12];refine⟨by omega,?_⟩;have h1:=Int.tmod_lt_of_pos x hn;have h2:=Int.lt_tmod_of_pos x hn;have h3:=Y3 x (show n≠0 by omega);have h4:=YO x hn;have h5:=Int.tmod_eq_emod (a:=x) (b:=n);have h6:(n.natAbs:Int)=n:=by omega
 split
 . have:IntKind.i64.wrap (x.tmod n+n)=x % n:=by
    rw[Qi (by omega) (by omega)];split at h5<;>omega
   rw[this]; exact Qn
 . have:x.tmod n=x % n:=by split at h5<;>omega
   rw[this]; exact Qn
theorem ok34 {l:List Int} {at' n:Int} {jd:Nat} (h:G[jd]? = some ⟨[.slc (Qa l) l.length,i64 at'],78,0,true⟩) (hl:l.length<4611686018427387904) (h0:0<=at') (hn:n<=9223372036854775807) :
 OkP Try.prog 34 [.ptr (.own jd 0 0 0 0) 0,i64 n] G λo G'=>∃ v a:Int,o=.ret (i64 v)/\0<=a/\0<=v/\(1<=n->v<n)/\G'=G.set jd ⟨[.slc (Qa l) l.length,i64 a],78,0,true⟩:=by
 refine QaU hm Try.func34 c34 (by simp) λhcl => ?_;have e:=Qau h rfl;have hj:=Qb h;simp only at e;simp -implicitDefEqProofs[i34,r34,e,QU h,QmT hj];split
 . refine⟨_,_,⟨0,rfl,at',h0,by omega,λ_=>by omega,?_⟩,Qn⟩;exact(Vx λi=>by
    rw[Zb]; split
    . rename_i e; subst e; rw[h]
    . rfl).symm
 . rename_i hc;have w1:IntKind.i64.wrap (at'+1)=at'+1:=Qi (by omega) (by omega);have w2:IntKind.i64.wrap (at'+1-1)=at':=by rw[Qi (by omega) (by omega)]; omega
   have hlt:at'.toNat<l.length:=by omega
   rw[w1,w2];refine⟨by omega,by omega,?_⟩;simp -implicitDefEqProofs[QpP hlt];refine QN (λ_=>Qj2 _ n (by omega) hn) ?_;simp -implicitDefEqProofs;refine⟨_,_,⟨_,rfl,at'+1,by omega,Y3 _ (by omega),λ_=>YO _ (by omega),rfl⟩,Qn⟩
end
structure Vw where
 pl:Int
 lv:Int
 sn:List Int
 inf:Int
def Vw.cells (v:Vw):Wv:=[i64 v.pl,i64 v.lv,.slc (Qa v.sn) v.sn.length,i64 v.inf]
def Nd.cN (x:Nd):Wv:=[i64 x.k,i64 x.p,i64 x.i,slN x.nx,slN x.ws,slN x.ps]
def icN (x:Int×Int):Wv:=[i64 x.1,i64 x.2]
def lcN (x:Int×Int×Int):Wv:=[i64 x.1,i64 x.2.1,i64 x.2.2]
theorem Vw.len (v:Vw):v.cells.length=4:=rfl
theorem Nd.lenN (v:Nd):v.cN.length=6:=rfl
theorem Qeo (v:Int×Int):(icN v).length=2:=rfl
theorem Qif (v:Int×Int×Int):(lcN v).length=3:=rfl
structure Mc where
 l:List Int
 lv:List (Int×Int×Int)
 vl:Nat
 most:Int
 zero:Bool
 pl:Int
structure Ms where
 at':Int
 pend:Int
 vn:Nat
 vi:Nat
 vv:Nat
 ns:List Nd
 is:List (Int×Int)
 vs:List Vw
section
variable (a:Nat) (c:Mc) (s:Ms)
def Mc.D:AO:=⟨[.slc (Qa c.l) c.l.length,i64 s.at'],78,0,true⟩
def Mc.M:AO:=⟨[.ptr (.own a 0 0 0 0) 0,.own (a+2) 0 c.lv.length 3 c.vl,.own (a+3) 0 s.vs.length 4 s.vv,i64 c.most,i64 s.pend,bl c.zero,bl false,i64 c.pl,.own (a+4) 0 s.ns.length 6 s.vn,.own (a+5) 0 s.is.length 2 s.vi],82,0,true⟩
def Mc.L:AO:=⟨rws lcN c.lv,85,c.vl,true⟩
def Mc.V:AO:=⟨rws Vw.cells s.vs,122,s.vv,true⟩
def Mc.N:AO:=⟨rws Nd.cN s.ns,59,s.vn,true⟩
def Mc.I:AO:=⟨rws icN s.is,45,s.vi,true⟩
end
def Mc.hp (c:Mc) (A B:Wu) (s:Ms):Wu:=A++(c.D s::c.M A.length s::c.L::Mc.V s::Mc.N s::Mc.I s::B)
section
variable {A B:Wu} {c:Mc} {s:Ms}
def QsZ (c:Mc) (A B:Wu) (s:Ms) (n:Int) (o:Out) (G':Wu):Prop:=∃ v a:Int,o=.ret (i64 v)/\0<=a/\0<=v/\(1<=n->v<n)/\G'=c.hp A B { s with at':=a }
theorem Qel {n:Int} (hl:c.l.length<4611686018427387904) (h0:0<=s.at') (hn:n<=9223372036854775807) :
 OkP Try.prog 34 [.ptr (.own A.length 0 0 0 0) 0,i64 n] (c.hp A B s) (QsZ c A B s n):=by
 refine(ok34 (l:=c.l) (at':=s.at') (by simp[Mc.hp,Mc.D]) hl h0 hn).mono ?_;rintro o G' ⟨v,a,h1,h2,h3,h4,h5⟩;refine⟨v,a,h1,h2,h3,h4,?_⟩;rw[h5];simp[Mc.hp,Mc.D,Mc.M,Mc.V,Mc.N,Mc.I]
set_option maxRecDepth 10000 in
theorem Qo5 {pl lv:Int} {sn:List Int} {N:Nat} {K:Wt} (hv:s.vs.length<1000000) (hsl:∀ v∈s.vs,v.sn.length<=100)
 (hret:∀ i (h:i<s.vs.length),s.vs[i].pl=pl->s.vs[i].lv=lv->s.vs[i].sn=sn->∀ env B' L,B'=B++L->env.get 8=i64 s.vs[i].inf->K .ret env (c.hp A B' s))
 (hexit:(∀ v∈s.vs,¬ (v.pl=pl/\v.lv=lv/\v.sn=sn))->∀ env B' L,B'=B++L->env.get 0=.ptr (.own (A.length+1) 0 0 0 0) 0->env.get 1=i64 pl->env.get 2=i64 lv->env.get 3=.slc (Qa sn) sn.length->K (.exit 0) env (c.hp A B' s)) :
 ∀ (n i:Nat) (env:Env) (B' L:Wu),B'=B++L->i+n=s.vs.length->(∀ j (h:j<s.vs.length),j<i->¬ (s.vs[j].pl=pl/\s.vs[j].lv=lv/\s.vs[j].sn=sn))->env.get 0=.ptr (.own (A.length+1) 0 0 0 0) 0->env.get 1=i64 pl->env.get 2=i64 lv->env.get 3=.slc (Qa sn) sn.length->env.get 9=i64 i ->
  LI Try.prog N Qh QfY env (c.hp A B' s) K:=by
 intro n
 induction n with
 |zero =>
  intro i env B' L hB hi hj h0 h1 h2 h3 h9;refine Qc hm QfY.eq_1 ?_;have e:i=s.vs.length:=by omega
  subst e;simp -implicitDefEqProofs[h0,h1,h2,h3,h9,Mc.hp,Mc.M];exact hexit (λv hv'=>by obtain⟨j,hj',rfl⟩:=VX hv'; exact hj j hj' hj') _ B' L hB (by simp[h0]) (by simp[h1]) (by simp[h2]) (by simp[h3])
 |succ n ih =>
  intro i env B' L hB hi hj h0 h1 h2 h3 h9;refine Qc hm QfY.eq_1 ?_;have hlt:i<s.vs.length:=by omega
  have d:=Qiq Vw.len hlt;have d1:=QeQ Vw.len hlt;have d2:=Qmk Vw.len hlt;rw[Vw.cells,V0,V0,V0,V0,Ye]at d;have w1:IntKind.i64.wrap ((i:Int)+1)=((i+1:Nat):Int):=QaQ (by omega);have hgo:∀ env' x,¬ (s.vs[i].pl=pl/\s.vs[i].lv=lv/\s.vs[i].sn=sn)->env'.get 0=.ptr (.own (A.length+1) 0 0 0 0) 0->env'.get 1=i64 pl->env'.get 2=i64 lv->env'.get 3=.slc (Qa sn) sn.length->env'.get 9=i64 ((i+1:Nat):Int) ->
   LI Try.prog N Qh QfY env' (c.hp A (B'++[x]) s) K:=λenv' x hne g0 g1 g2 g3 g9=>ih (i+1) env' (B'++[x]) (L++[x]) (by simp[hB]) (by omega) (λj h h'=>by
   by_cases e:j=i
   . subst e; exact hne
   . exact hj j h (by omega)) g0 g1 g2 g3 g9
  have hsn:=hsl _ (Vg hlt);by_cases hp:s.vs[i].pl=pl
  . by_cases hq:s.vs[i].lv=lv
    . simp -implicitDefEqProofs[h0,h1,h2,h3,h9,hlt,Mc.hp,Mc.M,Mc.V,d,d1,d2,hp,hq];refine QdK (λ_=>by simp only[Vs,V3,SV.strip]; exact ok48 (l:=s.vs[i].sn) (m:=sn) (isc _ _) (isc _ _) (by omega)) ?_;by_cases he:s.vs[i].sn=sn
      . simp -implicitDefEqProofs[hlt,d,d1,d2,hp,hq,he];have:=hret i hlt hp hq he;refine this _ (B'++[_]) (L++[_]) (by rw[hB,VF]) ?_; simp
      . simp -implicitDefEqProofs[hlt,d,d1,d2,hp,hq,he];refine hgo _ _ (λh=>he h.2.2) ?_ ?_ ?_ ?_ ?_<;>simp[h0,h1,h2,h3,w1]
    . simp -implicitDefEqProofs[h0,h1,h2,h3,h9,hlt,Mc.hp,Mc.M,Mc.V,d,d1,d2,hp,hq];refine Qf5 _ _ _ _ ?_;simp -implicitDefEqProofs[hlt,d,d1,d2,hp,hq];refine hgo _ _ (λh=>hq h.2.1) ?_ ?_ ?_ ?_ ?_<;>simp[h0,h1,h2,h3,w1]
  . simp -implicitDefEqProofs[h0,h1,h2,h3,h9,hlt,Mc.hp,Mc.M,Mc.V,d,d1,d2,hp];refine Qf5 _ _ _ _ ?_;simp -implicitDefEqProofs[hlt,d,d1,d2,hp];refine hgo _ _ (λh=>hp h.1) ?_ ?_ ?_ ?_ ?_<;>simp[h0,h1,h2,h3,w1]
def Ms.addV (s:Ms) (pl lv:Int) (sn:List Int) (k:Int) (a:Int):Ms :=
 { s with at':=a,vs:=s.vs++[⟨pl,lv,sn,s.is.length⟩],vv:=s.vv+1,is:=s.is++[(pl,k)],vi:=s.vi+1 }
theorem QnH (n:Nat) (l:List Int):(slN l).under n=true:=by unfold slN; split; rfl; simp only[sl,SV.under]; exact QjN n l
theorem Qcj:(c.hp A B s).length=A.length+(B.length+6):=by simp[Mc.hp]
theorem QkY {s':Ms} (h:closed (c.hp A B s)):closed (c.hp A B s'):=by
 intro i o ho x hx;have hl:(c.hp A B s').length=(c.hp A B s).length:=by rw[Qcj,Qcj]
 by_cases h1:i<A.length
 . have e:(c.hp A B s)[i]? = some o:=by
    unfold Mc.hp at ho ⊢; rw[Vd h1]at ho ⊢; exact ho
   rw[hl]; exact h i o e x hx
 . by_cases h2:A.length+6<=i
   . have e:(c.hp A B s)[i]? = some o:=by
      unfold Mc.hp at ho ⊢;obtain⟨k,rfl⟩:∃ k,i=A.length+(k+6):=⟨i-A.length-6,by omega⟩;rw[Vf (by omega)]at ho ⊢;simpa using ho
     rw[hl]; exact h i o e x hx
   . obtain⟨k,rfl⟩:∃ k,i=A.length+k:=⟨i-A.length,by omega⟩;unfold Mc.hp at ho;rw[Vf (by omega)]at ho;have hk:k<6:=by omega
     rw[Qcj];have e:A.length+k-A.length=k:=by omega
     rw[e]at ho;have key:∀ l:Wv,SV.underL (A.length+(B.length+6)) l=true->x∈l->x.under (A.length+(B.length+6))=true:=λl h1 h2=>(SV.underL_iff _ _).1 h1 x h2
     match k,hk with
     |0,_=>simp at ho; subst ho; exact key _ (by simp[Mc.D,SV.underL,SV.under]) hx
     |1,_=>simp at ho; subst ho; exact key _ (by simp[Mc.M,SV.underL,SV.under]) hx
     |2,_=>simp at ho; subst ho; exact key _ (QcK (λx=>by simp[lcN,SV.underL,SV.under]) _) hx
     |3,_=>simp at ho; subst ho; exact key _ (QcK (λx=>by simp[Vw.cells,SV.underL,SV.under]) _) hx
     |4,_=>simp at ho; subst ho; exact key _ (QcK (λx=>by simp[Nd.cN,SV.underL,SV.under,QnH]) _) hx
     |5,_=>simp at ho; subst ho; exact key _ (QcK (λx=>by simp[icN,SV.underL,SV.under]) _) hx
theorem QhT {s':Ms} (h:closed (c.hp A B s)) {B' L:Wu} (hB:B'=B++L) {r r':SV} (hr:r.fz (c.hp A B s').length [] L 2=r'):Cv (c.hp A B s).length r (c.hp A B' s') r' (c.hp A B s'):=by
 subst hB;have e:c.hp A (B++L) s'=c.hp A B s'++L:=by simp[Mc.hp]
 rw[e];exact Ql 2 (QkY h) (by rw[Qcj,Qcj]) hr
def QrI (c:Mc) (A B:Wu) (s:Ms) (pl lv:Int) (sn:List Int) (o:Out) (G':Wu):Prop :=
 (∃ i,∃ h:i<s.vs.length,s.vs[i].pl=pl/\s.vs[i].lv=lv/\s.vs[i].sn=sn/\o=.ret (i64 s.vs[i].inf)/\G'=c.hp A B s) \/
 (∃ k a:Int,(∀ v∈s.vs,¬ (v.pl=pl/\v.lv=lv/\v.sn=sn))/\1<=k/\k<=3/\0<=a/\o=.ret (i64 s.is.length)/\G'=c.hp A B (s.addV pl lv sn k a))
set_option maxRecDepth 10000 in
theorem ok60 {pl lv:Int} {sn:List Int} (hl:c.l.length<4611686018427387904) (h0:0<=s.at') (hv:s.vs.length<1000000) (hi:s.is.length<1000000) (hsl:∀ v∈s.vs,v.sn.length<=100) :
 OkP Try.prog 60 [.ptr (.own (A.length+1) 0 0 0 0) 0,i64 pl,i64 lv,.slc (Qa sn) sn.length] (c.hp A B s) (QrI c A B s pl lv sn):=by
 refine QaU hm Try.func60 c60 (by simp) λhcl => ?_;simp -implicitDefEqProofs[i60,r60];refine Qo5 (B:=B) (pl:=pl) (lv:=lv) (sn:=sn) hv hsl (λi h e1 e2 e3 env B' L hB h8 => ?_) (λhno env B' L hB g0 g1 g2 g3 => ?_) s.vs.length 0 _ B [] (by simp) (by omega) (λj h h'=>by omega) (by simp) (by simp) (by simp) (by simp) (by simp)
 . simp -implicitDefEqProofs[h8];exact⟨_,_,.inl ⟨i,h,e1,e2,e3,rfl,rfl⟩,QhT hcl hB (Qcd _ _ _ _ _)⟩
 . simp -implicitDefEqProofs[g0,g1,g2,g3,Mc.hp,Mc.D,Mc.L,Mc.M,Mc.V,Mc.N,Mc.I,QcM Vw.len];refine⟨by omega,by omega,?_⟩;have h59:=Qel (A:=A) (c:=c) (B:=B'++[⟨[i64 pl,i64 lv,SV.slc (Qa sn) sn.length,i64 s.is.length],122,0,true⟩]) (n:=3) (s:={ s with vs:=s.vs++[⟨pl,lv,sn,s.is.length⟩],vv:=s.vv+1 }) hl h0 (by omega);refine Q6 (by simpa[Mc.hp,Mc.D,Mc.L,Mc.M,Mc.V,Mc.N,Mc.I,Qeq,rws,Vw.cells]using h59) ?_;rintro o G' ⟨v,a,rfl,h1,h2,h3,rfl⟩;have w1:IntKind.i64.wrap (1+v)=1+v:=Qi (by omega) (by omega);have w2:IntKind.i64.wrap (s.is.length:Int)=s.is.length:=QcJ (by omega);simp -implicitDefEqProofs[g0,g1,g2,g3,Mc.hp,Mc.D,Mc.L,Mc.M,Mc.V,Mc.N,Mc.I,QcM Qeo,w1,w2];refine⟨by omega,by omega,_,_,.inr ⟨1+v,a,hno,by omega,by omega,h1,rfl,rfl⟩,?_⟩;have hf:=QhT (s':=s.addV pl lv sn (1+v) a) hcl (B':=B'++[⟨[i64 pl,i64 lv,SV.slc (Qa sn) sn.length,i64 s.is.length],122,0,true⟩,⟨[i64 pl,i64 (1+v)],45,0,true⟩]) (L:=L++_) (by rw[hB,VF]) (r:=i64 s.is.length) (Qcd _ _ _ _ _);simpa[Ms.addV,Mc.hp,Mc.D,Mc.L,Mc.M,Mc.V,Mc.N,Mc.I,Qeq,rws,Vw.cells,icN]using hf
end
section
variable {A B:Wu} {c:Mc} {s:Ms}
set_option maxRecDepth 10000 in
theorem QtK {info:Int} {N:Nat} {K:Wt} (hn:s.ns.length<1000000)
 (hret:(∃ x∈s.ns,x.k=2/\x.i=info)->∀ env,K .ret env (c.hp A B s))
 (hexit:(∀ x∈s.ns,¬ (x.k=2/\x.i=info))->∀ env,env.get 0=.ptr (.own (A.length+1) 0 0 0 0) 0->env.get 1=i64 info->K (.exit 0) env (c.hp A B s)) :
 ∀ (n i:Nat) (env:Env),i+n=s.ns.length->(∀ j (h:j<s.ns.length),j<i->¬ (s.ns[j].k=2/\s.ns[j].i=info))->env.get 0=.ptr (.own (A.length+1) 0 0 0 0) 0->env.get 1=i64 info->env.get 6=i64 i ->
  LI Try.prog N Qh Qgp env (c.hp A B s) K:=by
 intro n
 induction n with
 |zero =>
  intro i env hi hj h0 h1 h6;refine Qc hm Qgp.eq_1 ?_;have e:i=s.ns.length:=by omega
  subst e;simp -implicitDefEqProofs[h0,h1,h6,Mc.hp,Mc.M];exact hexit (λx hx=>by obtain⟨j,hj',rfl⟩:=VX hx; exact hj j hj' hj') _ (by simp[h0]) (by simp[h1])
 |succ n ih =>
  intro i env hi hj h0 h1 h6;refine Qc hm Qgp.eq_1 ?_;have hlt:i<s.ns.length:=by omega
  have d:=Qiq Nd.lenN hlt;have d1:=QeQ Nd.lenN hlt;rw[Nd.cN]at d;simp only[V0,Ye]at d;have d3:=Qhu Nd.lenN (t:=0) hlt (by omega);have d4:=Qhu Nd.lenN (t:=2) hlt (by omega);simp only[Nd.cN,Yo,VS,Yd]at d3 d4;have w1:IntKind.i64.wrap ((i:Int)+1)=((i+1:Nat):Int):=QaQ (by omega);by_cases hp:s.ns[i].k=2
  . by_cases hq:s.ns[i].i=info
    . simp -implicitDefEqProofs[h0,h1,h6,hlt,Mc.hp,Mc.M,Mc.N,d,d1,d3,d4,hp,hq];refine⟨by omega,?_⟩;exact hret ⟨_,Vg hlt,hp,hq⟩ _
    . simp -implicitDefEqProofs[h0,h1,h6,hlt,Mc.hp,Mc.M,Mc.N,d,d1,d3,d4,hp,hq];refine⟨by omega,?_⟩;refine ih (i+1) _ (by omega) (λj h h' => ?_) ?_ ?_ ?_
      . by_cases e:j=i
        . subst e; simp[hq]
        . exact hj j h (by omega)
      all_goals simp[h0,h1,w1]
  . simp -implicitDefEqProofs[h0,h1,h6,hlt,Mc.hp,Mc.M,Mc.N,d,d1,d3,d4,hp];refine ih (i+1) _ (by omega) (λj h h' => ?_) ?_ ?_ ?_
    . by_cases e:j=i
      . subst e; simp[hp]
      . exact hj j h (by omega)
    all_goals simp[h0,h1,w1]
def Ms.cut (s:Ms):Ms:={ s with is:=s.is.take (s.is.length-1),vs:=s.vs.take (s.vs.length-1) }
def Qt2 (c:Mc) (A B:Wu) (s:Ms) (info pl:Int) (o:Out) (G':Wu):Prop :=
 o=.ret (.tup [])/\(((pl<0\/info≠s.is.length-1\/∃ x∈s.ns,x.k=2/\x.i=info)/\G'=c.hp A B s) \/
  (0<=pl/\info=s.is.length-1/\(∀ x∈s.ns,¬ (x.k=2/\x.i=info))/\G'=c.hp A B s.cut))
set_option maxRecDepth 10000 in
theorem ok61 {info pl:Int} (hn:s.ns.length<1000000) (hi:s.is.length<1000000) (hi1:0<=pl->1<=s.is.length) (hv:s.vs.length=s.is.length) :
 OkP Try.prog 61 [.ptr (.own (A.length+1) 0 0 0 0) 0,i64 info,i64 pl] (c.hp A B s) (Qt2 c A B s info pl):=by
 refine QaU hm Try.func61 c61 (by simp) λhcl => ?_;have w1:IntKind.i64.wrap ((s.is.length:Int)-1)=s.is.length-1:=Qi (by omega) (by omega);by_cases hp:pl<0
 . simp -implicitDefEqProofs[i61,r61,hp];exact⟨_,_,⟨rfl,.inl ⟨.inl hp,rfl⟩⟩,Qn⟩
 . by_cases hq:info=s.is.length-1
   . have ha:c.hp A B s=A++(c.D s::c.M A.length s::c.L::Mc.V s::Mc.N s::Mc.I s::B):=rfl;rw[ha];simp -implicitDefEqProofs[i61,r61,hp,Mc.M,w1,hq];rw[<-hq];refine QtK (A:=A) (B:=B) (c:=c) (s:=s) (info:=info) hn (λhx env => ?_) (λhx env g0 g1 => ?_) s.ns.length 0 _ (by omega) (λj h h'=>by omega) (by simp) (by simp) (by simp)
     . simp -implicitDefEqProofs;exact⟨_,_,⟨rfl,.inl ⟨.inr (.inr hx),rfl⟩⟩,Qn⟩
     . simp -implicitDefEqProofs[g0,g1,Mc.hp,Mc.M,hq,w1,hv,QcM];refine⟨by omega,_,_,⟨rfl,.inr ⟨by omega,rfl,by rw[<-hq]; exact hx,rfl⟩⟩,?_⟩;have e1:=Qma (n0:=A.length+(B.length+6)) (r:=.tup []) (H:=A++(c.D s::c.M A.length s.cut::c.L::Mc.V s::Mc.N s::Mc.I s::B)) (j:=A.length+3) (o:=Mc.V s) (by simp) (by rw[Vf (by omega)]; simp) rfl ((s.vs.length-1)*4);have e2:=Qma (n0:=A.length+(B.length+6)) (r:=.tup []) (H:=A++(c.D s::c.M A.length s.cut::c.L::Mc.V s.cut::Mc.N s::Mc.I s::B)) (j:=A.length+5) (o:=Mc.I s) (by simp) (by rw[Vf (by omega)]; simp) rfl ((s.is.length-1)*2);have t1:=Qkm Vw.len s.vs (s.vs.length-1) (by omega);have t2:=Qkm Qeo s.is (s.is.length-1) (by omega);have m1:min (s.vs.length-1) s.vs.length=s.vs.length-1:=by omega
       have m2:min (s.is.length-1) s.is.length=s.is.length-1:=by omega
       have e3:=Cv.trans (r2:=.tup []) (r3:=.tup []) (by simpa[Mc.hp,Mc.M,Mc.V,Mc.N,Mc.I,Mc.D,Ms.cut,t1,t2,m1,m2]using e1) (by simpa[Mc.hp,Mc.M,Mc.V,Mc.N,Mc.I,Mc.D,Ms.cut,t1,t2,m1,m2]using e2);simpa[Mc.hp,Mc.M,Mc.V,Mc.N,Mc.I,Mc.D,Ms.cut,t1,t2,m1,m2,hv]using e3
   . have ha:c.hp A B s=A++(c.D s::c.M A.length s::c.L::Mc.V s::Mc.N s::Mc.I s::B):=rfl;rw[ha];simp -implicitDefEqProofs[i61,r61,hp,Mc.M,w1,hq];exact⟨_,_,⟨rfl,.inl ⟨.inr (.inl hq),rfl⟩⟩,Qn⟩
end
section
variable {A B:Wu} {c:Mc} {s:Ms}
def QbN (A B:Wu) (ps:List Int):AO:=⟨[i64 3,i64 0,i64 0,.val (.slice none 0 0),.val (.slice none 0 0),.own (A.length+(B.length+7)) 0 ps.length 1 ps.length],59,0,true⟩
def Qdm (ps:List Int):AO:=⟨Qa ps,3,ps.length,true⟩
set_option maxRecDepth 10000 in
theorem Qru {np:Nat} {at':Int} {N:Nat} {K:Wt} (hl:c.l.length<4611686018427387904) (hp:c.pl=np) (hnp:np<=1000)
 (hexit:∀ env ps L a,ps.length=np->(∀ w∈ps,-3<=w/\w<=3)->0<=a->env.get 0=.ptr (.own (A.length+1) 0 0 0 0) 0->env.get 1=i64 at'->env.get 4=.ptr (.own (A.length+(B.length+6)) 0 0 0 0) 0 ->
  K (.exit 0) env (c.hp A (B++QbN A B ps::Qdm ps::L) { s with at':=a })) :
 ∀ (n:Nat) (env:Env) (ps:List Int) (L:Wu) (a:Int),ps.length+n=np->(∀ w∈ps,-3<=w/\w<=3)->0<=a->env.get 0=.ptr (.own (A.length+1) 0 0 0 0) 0->env.get 1=i64 at'->env.get 4=.ptr (.own (A.length+(B.length+6)) 0 0 0 0) 0->env.get 5=i64 ps.length ->
  LI Try.prog N Qh QiU env (c.hp A (B++QbN A B ps::Qdm ps::L) { s with at':=a }) K:=by
 intro n
 induction n with
 |zero =>
  intro env ps L a hn hw ha h0 h1 h4 h5;refine Qc hm QiU.eq_1 ?_;have e:ps.length=np:=by omega
  simp -implicitDefEqProofs[h0,h1,h4,h5,Mc.hp,Mc.M,show ¬ ((ps.length:Int)<c.pl)by omega];refine hexit _ ps L a e hw ha ?_ ?_ ?_<;>simp[h0,h1,h4]
 |succ n ih =>
  intro env ps L a hn hw ha h0 h1 h4 h5;refine Qc hm QiU.eq_1 ?_;have hlt:ps.length<np:=by omega
  simp -implicitDefEqProofs[h0,h1,h4,h5,Mc.hp,Mc.M,show(ps.length:Int)<c.pl by omega,QbN,Qdm];have h59:=Qel (A:=A) (c:=c) (B:=B++QbN A B ps::Qdm ps::L) (n:=7) (s:={ s with at':=a }) hl ha (by omega);refine Q6 (by simpa[Mc.hp,Mc.D,Mc.L,Mc.M,Mc.V,Mc.N,Mc.I,QbN,Qdm]using h59) ?_;rintro o G' ⟨v,a',rfl,h1',h2,h3,rfl⟩;have w1:IntKind.i64.wrap (v-3)=v-3:=Qi (by omega) (by omega);have w2:IntKind.i64.wrap ((ps.length:Int)+1)=((ps.length+1:Nat):Int):=QaQ (by omega);simp -implicitDefEqProofs[h0,h1,h4,h5,Mc.hp,Mc.D,Mc.L,Mc.M,Mc.V,Mc.N,Mc.I,QbN,Qdm,w1];refine⟨by omega,by omega,?_⟩;refine LI.cong (H':=c.hp A (B++QbN A B (ps++[v-3])::Qdm (ps++[v-3])::(L++[⟨[i64 (v-3)],3,0,true⟩])) { s with at':=a' }) (by simp[Mc.hp,Mc.D,Mc.L,Mc.M,Mc.V,Mc.N,Mc.I,QbN,Qdm,show Qa (ps++[v-3])=Qa ps++[i64 (v-3)]by simp[Qa]]) (ih _ _ _ _ (by simp; omega) ?_ h1' ?_ ?_ ?_ ?_)
  . intro w hw';rcases Vj.1 hw' with h|h
    . exact hw w h
    . simp at h; omega
  all_goals simp[h0,h1,h4,w2]
theorem QkW (n:AO):(c.hp A B s).set (A.length+4) n=A++(c.D s::c.M A.length s::c.L::Mc.V s::n::Mc.I s::B):=by
 unfold Mc.hp; rw[Y2 _ _ (by omega)]; simp
theorem Qpe (x:Nd):Qw x.cN:=by
 intro y hy;have hs:∀ l:List Int,(slN l).isCell=true:=λl=>by unfold slN; split<;>rfl
 simp only[Nd.cN,Vi,VL,Wi]at hy;rcases hy with rfl|rfl|rfl|rfl|rfl|rfl
 . rfl
 . rfl
 . rfl
 . exact hs _
 . exact hs _
 . exact hs _
theorem QiY (n:Nat) (x:Nd):SV.underL n x.cN=true:=by simp[Nd.cN,SV.underL,SV.under,QnH]
theorem QoB {n0 k:Nat} {L:Wu} {r:SV} {x:Nd} {cx:Wv} (hcl:closed (c.hp A B s)) (hn:n0<=A.length+(B.length+6)) (hk:k<s.ns.length) (hx:cx.map (SV.fz (A.length+(B.length+6)) [] L 2)=x.cN) :
 Cv n0 r (A++(c.D s::c.M A.length s::c.L::Mc.V s::⟨(rws Nd.cN s.ns).take (k*6)++(cx++(rws Nd.cN s.ns).drop (k*6+6)),59,s.vn,true⟩::Mc.I s::(B++L))) (r.fz (A.length+(B.length+6)) [] L 2) (c.hp A B { s with ns:=s.ns.set k x }):=by
 have hu0:=QcK (QiY (A.length+(B.length+6))) s.ns;have hm:∀ l:Wv,(∀ y∈l,y∈rws Nd.cN s.ns)->l.map (SV.fz (A.length+(B.length+6)) [] L 2)=l:=by
  intro l hl;exact Qdu _ [] L 1 ((SV.underL_iff _ _).2 λy hy=>(SV.underL_iff _ _).1 hu0 y (hl y hy))
 have hc:((rws Nd.cN s.ns).take (k*6)++(cx++(rws Nd.cN s.ns).drop (k*6+6))).map (SV.fz (A.length+(B.length+6)) [] L 2)=rws Nd.cN (s.ns.set k x):=by
  rw[Y6,Y6,hx,hm _ (λy hy=>V7 hy),hm _ (λy hy=>Yx hy),QpL Nd.lenN hk]
 have hlen:((c.hp A B s).set (A.length+4) ⟨(rws Nd.cN s.ns).take (k*6)++(cx++(rws Nd.cN s.ns).drop (k*6+6)),59,s.vn,true⟩).length=A.length+(B.length+6):=by rw[VK,Qcj]
 have hz:=Qcz.one (L:=L) (ks:=[]) (d:=2) (j:=A.length+4) (H0:=(c.hp A B s).set (A.length+4) ⟨(rws Nd.cN s.ns).take (k*6)++(cx++(rws Nd.cN s.ns).drop (k*6+6)),59,s.vn,true⟩)
  (λi o hi ho y hy=>by rw[Ve (by omega)]at ho; rw[VK]; exact hcl i o ho y hy)
  (Vh (by rw[Qcj]; omega)) rfl (by rw[hlen,hc]; exact QtG Qpe _)
 rw[hlen,hc,Yl,QkW,QkW]at hz;have:=QqG (n0:=n0) (r:=r) (Hx:=A++(c.D s::c.M A.length s::c.L::Mc.V s::⟨(rws Nd.cN s.ns).take (k*6)++(cx++(rws Nd.cN s.ns).drop (k*6+6)),59,s.vn,true⟩::Mc.I s::(B++L))) 2 (by simp) (by simp; omega) hz;rw[QkW]at hlen;rw[hlen]at this;have e:c.hp A B { s with ns:=s.ns.set k x }=A++(c.D s::c.M A.length s::c.L::Mc.V s::⟨rws Nd.cN (s.ns.set k x),59,s.vn,true⟩::Mc.I s::B):=by simp[Mc.hp,Mc.D,Mc.M,Mc.V,Mc.N,Mc.I]
 rw[e]; exact this
def Ms.endN (s:Ms) (k:Nat) (ps:List Int) (a:Int):Ms:={ s with at':=a,ns:=s.ns.set k ⟨3,0,0,[],[],ps⟩ }
def Qhr (c:Mc) (A B:Wu) (s:Ms) (k:Nat) (o:Out) (G':Wu):Prop :=
 o=.ret (.tup [])/\∃ (ps:List Int) (a:Int),(ps.length:Int)=c.pl/\(∀ w∈ps,-3<=w/\w<=3)/\0<=a/\G'=c.hp A B (s.endN k ps a)
set_option maxRecDepth 10000 in
theorem ok59 {k:Nat} (hl:c.l.length<4611686018427387904) (h0:0<=s.at') (hp:1<=c.pl) (hp2:c.pl<=1000) (hk:k<s.ns.length) (hn:s.ns.length<1000000) :
 OkP Try.prog 59 [.ptr (.own (A.length+1) 0 0 0 0) 0,i64 k] (c.hp A B s) (Qhr c A B s k):=by
 refine QaU hm Try.func59 c59 (by simp) λhcl => ?_;obtain⟨np,hnp⟩:∃ np:Nat,c.pl=np:=⟨c.pl.toNat,by omega⟩;have ha:c.hp A B s=A++(c.D s::c.M A.length s::c.L::Mc.V s::Mc.N s::Mc.I s::B):=rfl;rw[ha];simp -implicitDefEqProofs[i59,r59];refine⟨rfl,LI.tell (Qbn.own0 (j:=A.length+(B.length+6)) (p:=5) (o:=⟨[i64 3,i64 0,i64 0,.val (.slice none 0 0),.val (.slice none 0 0),.val (.slice none 0 0)],59,0,true⟩) ?_ rfl rfl 3 1) ?_⟩
 . rw[Vf (Nat.le_add_right _ _),Z6]; simp
 simp -implicitDefEqProofs;refine Qru (A:=A) (B:=B) (c:=c) (s:=s) (np:=np) (at':=k) hl hnp (by omega) (λenv ps L a hps hw ha' g0 g1 g4 => ?_) np _ [] [] s.at' (by simp) (by simp) h0 (by simp) (by simp) (by simp) (by simp);have hle:=QkC Nd.lenN hk;have key:∀ ps':List Int,ps'.length=np->(∀ w∈ps',-3<=w/\w<=3)->Qbf (A.length+(B.length+6)) (Qhr c A B s k) (.tup [])
  (A++(c.D { s with at':=a }::c.M A.length s::c.L::Mc.V s::⟨(rws Nd.cN s.ns).take (k*6)++([i64 3,i64 0,i64 0,.val (.slice none 0 0),.val (.slice none 0 0),.own (A.length+(B.length+7)) 0 ps.length 1 ps.length]++(rws Nd.cN s.ns).drop (k*6+6)),59,s.vn,true⟩::Mc.I s ::
   (B++QbN A B ps::⟨Qa ps',3,ps.length,true⟩::L))):=by
  intro ps' hps' hw';have hne:ps'≠[]:=by intro e; subst e; simp at hps'; omega
  refine⟨_,_,⟨rfl,ps',a,by omega,hw',ha',rfl⟩,?_⟩;have:=QoB (A:=A) (B:=B) (c:=c) (s:={ s with at':=a }) (n0:=A.length+(B.length+6)) (k:=k) (L:=QbN A B ps::⟨Qa ps',3,ps.length,true⟩::L) (r:=.tup []) (x:=⟨3,0,0,[],[],ps'⟩)
   (cx:=[i64 3,i64 0,i64 0,.val (.slice none 0 0),.val (.slice none 0 0),.own (A.length+(B.length+7)) 0 ps.length 1 ps.length]) (QkY hcl) (by omega) hk (by
    have e1:SV.fz (A.length+(B.length+6)) [] (QbN A B ps::⟨Qa ps',3,ps.length,true⟩::L) 2 (.own (A.length+(B.length+7)) 0 ps.length 1 ps.length)=.slc (Qa ps') ps'.length:=by
     have h:=QdF (n:=A.length+(B.length+6)) (ks:=[]) (L:=QbN A B ps::⟨Qa ps',3,ps.length,true⟩::L) (d:=1) 1 0 ps.length 1 ps.length;rw[show A.length+(B.length+7)=A.length+(B.length+6)+1 by omega,h];simp[QY,hps,hps',show(Qa ps').length=np by simp[Qa,hps'],VE]
    simp[Nd.cN,slN,hne,e1,sl,Qap,SV.under])
  simp[Mc.hp,Ms.endN,Mc.D,Mc.L,Mc.M,Mc.V,Mc.N,Mc.I]at this ⊢;exact this
 simp -implicitDefEqProofs[g0,g1,g4,Mc.hp,Mc.D,Mc.L,Mc.M,Mc.V,Mc.N,Mc.I,QbN,Qdm];by_cases hz:c.zero=true/\c.pl=2
 . rw[Wb hz];have h2:np=2:=by omega
   match ps,hps,hw,key with
   |[x,y],hps,hw,key =>
    have hx:=hw x (by simp);have w1:IntKind.i64.wrap (-x) = -x:=Qi (by omega) (by omega);simp[Qa,w1];refine⟨hk,rfl,hle,?_⟩;have:=key [x,-x] (by simp[h2]) (by intro w h; simp at h; omega);simpa[Mc.D,Mc.L,Mc.M,Mc.V,Mc.N,Mc.I,QbN,Qa]using this
   |[],hps,_,_=>simp at hps; omega
   |[_],hps,_,_=>simp at hps; omega
   |_::_::_::_,hps,_,_=>simp at hps; omega
 . rw[Wa hz];refine⟨hk,rfl,hle,?_⟩;have:=key ps hps hw;simpa[Mc.D,Mc.L,Mc.M,Mc.V,Mc.N,Mc.I,QbN]using this
end
section
variable {A B:Wu} {c:Mc} {s:Ms}
def Qa7 (l:List (List Int)):AO:=⟨l.map sl,36,l.length,true⟩
def Qa9 (l:List (List Int)):SV:=.slc (l.map sl) l.length
set_option maxRecDepth 10000 in
theorem Qs8 {seen:List (List Int)} {jp:Nat} {x0 x1 x2 i:Int} {N:Nat} {K:Wt} {y1 y7 y9:Int} {y11:Nat} {m:Nat} (hcl:closed (c.hp A B s)) (hs:seen.length<=1000) (hsl:∀ l∈seen,l.length<=m) (hm:m<=1000)
 (hpb:B[jp]? = some ⟨[i64 x0,i64 x1,i64 x2],85,0,true⟩)
 (hexit:∀ env L l,Cl 0 L->l.length=seen.length->(∀ x∈l,x.length<=m+1)->Qc2 seen l x0 i->env.get 0=.ptr (.own (A.length+1) 0 0 0 0) 0->env.get 1=i64 y1->env.get 2=Qa9 seen->env.get 7=i64 y7->env.get 8=.ptr (.own (A.length+(jp+6)) 0 0 0 0) 0->env.get 9=i64 y9->env.get 11=.ptr (.own y11 0 0 0 0) 0->env.get 12=i64 i ->
  env.get 13=.own (A.length+(B.length+6)) 0 seen.length 1 seen.length->K (.exit 2) env (c.hp A (B++Qa7 l::L) s)) :
 ∀ (n:Nat) (env:Env) (l:List (List Int)) (L:Wu),l.length+n=seen.length->Cl 0 L->(∀ x∈l,x.length<=m+1)->Qc2 seen l x0 i->env.get 0=.ptr (.own (A.length+1) 0 0 0 0) 0->env.get 1=i64 y1->env.get 2=Qa9 seen->env.get 7=i64 y7->env.get 8=.ptr (.own (A.length+(jp+6)) 0 0 0 0) 0->env.get 9=i64 y9->env.get 11=.ptr (.own y11 0 0 0 0) 0->env.get 12=i64 i ->
  env.get 13=.own (A.length+(B.length+6)) 0 l.length 1 l.length->env.get 14=i64 l.length->LI Try.prog N Qh Qe1 env (c.hp A (B++Qa7 l::L) s) K:=by
 intro n
 induction n with
 |zero =>
  intro env l L hn hL hl hnq h0 h1 h2 h7 h8 h9 h11 h12 h13 h14;refine Qc hm' Qe1.eq_1 ?_;have e:l.length=seen.length:=by omega
  simp -implicitDefEqProofs[h0,h1,h2,h7,h8,h9,h11,h12,h13,h14,Qa9,e];refine hexit _ L l hL e hl hnq ?_ ?_ ?_ ?_ ?_ ?_ ?_ ?_ ?_<;>simp[h0,h1,h2,h7,h8,h9,h11,h12,h13,e,Qa9]
 |succ n ih =>
  intro env l L hn hL hl hnq h0 h1 h2 h7 h8 h9 h11 h12 h13 h14;refine Qc hm' Qe1.eq_1 ?_;have hlt:l.length<seen.length:=by omega
  have ep:∀ X,Qd (B++X) jp 0=[i64 x0,i64 x1,i64 x2]:=λX=>by rw[Qd2 X (Qb hpb)]; exact Qau hpb rfl
  have hle:=hsl _ (Vg hlt);have w1:IntKind.i64.wrap ((l.length:Int)+1)=((l.length+1:Nat):Int):=QaQ (by omega);have key:∀ (v:Int) (env:Env),((l.length:Int)=x0->v=i)->env.get 0=.ptr (.own (A.length+1) 0 0 0 0) 0->env.get 1=i64 y1->env.get 2=Qa9 seen->env.get 7=i64 y7->env.get 8=.ptr (.own (A.length+(jp+6)) 0 0 0 0) 0->env.get 9=i64 y9->env.get 11=.ptr (.own y11 0 0 0 0) 0->env.get 12=i64 i ->
   env.get 13=.own (A.length+(B.length+6)) 0 (l.length+1) 1 (l.length+1)->env.get 14=i64 ((l.length+1:Nat):Int) ->
   LI Try.prog N Qh Qe1 env (A++(c.D s::c.M A.length s::c.L::Mc.V s::Mc.N s::Mc.I s::(B++⟨l.map sl++[.own (A.length+(B.length+(L.length+7))) 0 (seen[l.length].length+1) 1 2],36,l.length+1,true⟩ ::
    (L++[⟨Qa seen[l.length]++[i64 v],3,2,true⟩,⟨[i64 v],3,0,true⟩,⟨[.own (A.length+(B.length+(L.length+7))) 0 (seen[l.length].length+1) 1 2],36,0,true⟩])))) K:=by
   intro v env hvi g0 g1 g2 g7 g8 g9 g11 g12 g13 g14;have el:Qa seen[l.length]++[i64 v]=Qa (seen[l.length]++[v]):=by simp[Qa]
   rw[el];refine LI.cong (H':=c.hp A B s++(⟨l.map sl++[.own (A.length+(B.length+(L.length+7))) 0 (seen[l.length].length+1) 1 2],36,l.length+1,true⟩ ::
    (L++[⟨Qa (seen[l.length]++[v]),3,2,true⟩,⟨[i64 v],3,0,true⟩,⟨[.own (A.length+(B.length+(L.length+7))) 0 (seen[l.length].length+1) 1 2],36,0,true⟩]))) (by simp[Mc.hp]) ?_
   refine LI.tell (Qbn.give hcl (L.length+1) 1 (o:=⟨Qa (seen[l.length]++[v]),3,2,true⟩) (by simp) rfl) ?_;have hk:(c.hp A B s).length+(L.length+1)=A.length+(B.length+(L.length+7)):=by rw[Qcj]; omega
   have hg:SV.gv (A.length+(B.length+(L.length+7))) 2 (Qa (seen[l.length]++[v])) 1 (.own (A.length+(B.length+(L.length+7))) 0 (seen[l.length].length+1) 1 2)=sl (seen[l.length]++[v]):=by
    simp[sl,show(Qa (seen[l.length]++[v])).length=seen[l.length].length+1 by simp[Qa],VE]
   have hgi:∀ k:Int,SV.gv (A.length+(B.length+(L.length+7))) 2 (Qa (seen[l.length]++[v])) 1 (i64 k)=i64 k:=λk=>rfl;have hgl:(l.map sl).map (SV.gv (A.length+(B.length+(L.length+7))) 2 (Qa (seen[l.length]++[v])) 1)=l.map sl:=by simp[Function.comp_def,sl]
   refine LI.cong (H':=c.hp A B s++(Qa7 (l++[seen[l.length]++[v]])::(L++[⟨[],3,3,false⟩,⟨[i64 v],3,0,true⟩,⟨[sl (seen[l.length]++[v])],36,0,true⟩]))) ?_ ?_
   . rw[hk];simp[AO.gv_cl (YE _) hL,hg,hgi,hgl,Qa7,AO.dead]
   . refine LI.cong (H':=c.hp A (B++(Qa7 (l++[seen[l.length]++[v]])::(L++[⟨[],3,3,false⟩,⟨[i64 v],3,0,true⟩,⟨[sl (seen[l.length]++[v])],36,0,true⟩]))) s) (by simp[Mc.hp]) ?_;rw[hk];refine ih _ _ _ (by simp; omega) ?_ ?_ (hnq.snoc hlt hvi) ?_ ?_ ?_ ?_ ?_ ?_ ?_ ?_ ?_ ?_
     . exact hL.app (Cl.cons rfl (Cl.cons rfl (Cl.cons (by simp[SV.underL,sl,SV.under]) (Cl.nil _))))
     . intro x hx;rcases Vj.1 hx with h|h
       . exact hl x h
       . simp at h; subst h; simp; omega
     all_goals rw[QlB _ (SV.gv _ _ _ _) (Qmv _ _ _ _)]; simp[g0,g1,g2,g7,g8,g9,g11,g12,g13,g14,Qa9]
  simp -implicitDefEqProofs[h0,h1,h2,h7,h8,h9,h11,h12,h13,h14,Qa9,hlt,Mc.hp,sl,ep,Qa7,Yf];refine⟨by omega,by omega,by omega,?_⟩;split
  . rename_i hcnd;refine⟨by omega,by omega,by omega,by omega,?_⟩;refine key i _ (λ_=>rfl) ?_ ?_ ?_ ?_ ?_ ?_ ?_ ?_ ?_ ?_<;>simp[h0,h1,h2,h7,h8,h9,h11,h12,h13,h14,w1,Qa9]
  . rename_i hcnd;refine⟨by omega,by omega,by omega,by omega,?_⟩;refine key (-1) _ (λhq=>absurd (Or.inl hq) hcnd) ?_ ?_ ?_ ?_ ?_ ?_ ?_ ?_ ?_ ?_<;>simp[h0,h1,h2,h7,h8,h9,h11,h12,h13,h14,w1,Qa9]
end
structure Mc.Good (c:Mc):Prop where
 l:c.l.length<4611686018427387904
 p1:1<=c.pl
 p2:c.pl<=1000
 m:c.most<=2000
 lv:c.lv.length<=100
 lvr:∀ q∈c.lv,-1<=q.1/\q.1<c.pl/\2<=q.2.1/\q.2.1<=3
structure Qb9 (c:Mc) (s:Ms) (level:Nat):Prop where
 a0:0<=s.at'
 vl:s.vs.length=s.is.length
 vi:∀ j (h:j<s.vs.length),s.vs[j].inf=j/\s.vs[j].pl=(s.is[j]'(by omega)).1
 vsn:∀ v∈s.vs,v.sn.length<=100
 used:∀ j (h:j<s.vs.length),(level:Int)<=s.vs[j].lv->∃ x∈s.ns,x.k=2/\x.i=j
 isr:∀ q∈s.is,0<=q.1/\q.1<c.pl/\1<=q.2/\q.2<=3
 nsr:∀ x∈s.ns,x.k=2->0<=x.i/\x.i<s.is.length
 il:s.is.length<=s.ns.length
 ml:(s.ns.length:Int)+s.pend<=c.most
structure QfV (c:Mc) (s s':Ms) (level h:Nat) (sub:List Nd) (isN:List (Int×Int)) (vsN:List Vw):Prop where
 ns:s'.ns=s.ns++sub
 is:s'.is=s.is++isN
 vs:s'.vs=s.vs++vsN
 pend:s'.pend=s.pend-1
 lv:∀ v∈vsN,(level:Int)<=v.lv
 wlk:Wlk s.ns.length h sub
 rg:rg sub s.is.length=some s'.is.length
 good:∀ x∈sub,x.good c.pl s'.is
 inv:Qb9 c s' level
def Unq (vs:List Vw):Prop:=∀ (i j:Nat) (u v:Vw),vs[i]? = some u->vs[j]? = some v->u.pl=v.pl->u.lv=v.lv->u.sn=v.sn->i=j
def Lnk (b:Nat) (ns:List Nd) (gs:List Gh):Prop:=∀ (j:Nat) (x:Nd) (y:Gh),ns[j]? = some x->gs[j]? = some y->∀ (k:Nat) (d:Int),x.nx[k]? = some d->∃ (m:Nat) (z:Gh),d=((b+m:Nat):Int)/\gs[m]? = some z/\QeP y.sn z.sn x.mvr k/\z.lv=y.lv+1
def lvF (c:Mc) (l:Nat):Int:=(c.lv.getD l (0,0,0)).1
def Qdd (c:Mc) (ns:List Nd) (gs:List Gh) (vs:List Vw):Prop:=∀ (j:Nat) (x:Nd) (y:Gh),ns[j]? = some x->gs[j]? = some y ->
 (x.k=2->lvF c y.lv=x.p/\0<=x.i/\0<=x.p/\∃ s v,y.sn[x.p.toNat]? = some s/\vs[x.i.toNat]? = some v/\v.pl=x.p/\v.lv=y.lv/\v.sn=s)/\(x.k=1->lvF c y.lv<0)
theorem Qdd.mono {c:Mc} {ns:List Nd} {gs:List Gh} {vs:List Vw} (h:Qdd c ns gs vs) (l:List Vw):Qdd c ns gs (vs++l):=λj x y hx hy=>by
 obtain⟨h1,h2⟩:=h j x y hx hy;refine⟨λhk => ?_,h2⟩;obtain⟨a,b,b',s,v,d,e,f⟩:=h1 hk;exact⟨a,b,b',s,v,d,by rw[Vd (Qb e)]; exact e,f⟩
theorem Qdd.app {c:Mc} {n1 n2:List Nd} {g1 g2:List Gh} {vs:List Vw} (hl:g1.length=n1.length) (h1:Qdd c n1 g1 vs) (h2:Qdd c n2 g2 vs):Qdd c (n1++n2) (g1++g2) vs:=λj x y hx hy=>by
 by_cases h:j<n1.length
 . rw[Vd h]at hx;rw[Vd (by omega)]at hy;exact h1 j x y hx hy
 . rw[Vf (by omega)]at hx;rw[Vf (by omega),hl]at hy;exact h2 _ x y hx hy
theorem Lnk.app {b:Nat} {n1 n2:List Nd} {g1 g2:List Gh} (hl:g1.length=n1.length) (h1:Lnk b n1 g1) (h2:Lnk (b+n1.length) n2 g2):Lnk b (n1++n2) (g1++g2):=λj x y hx hy k d hd=>by
 by_cases h:j<n1.length
 . rw[Vd h]at hx;rw[Vd (by omega)]at hy;obtain⟨m,z,e1,e2,e3⟩:=h1 j x y hx hy k d hd;exact⟨m,z,e1,by rw[Vd (Qb e2)]; exact e2,e3⟩
 . rw[Vf (by omega)]at hx;rw[Vf (by omega),hl]at hy;obtain⟨m,z,e1,e2,e3⟩:=h2 _ x y hx hy k d hd;exact⟨n1.length+m,z,by rw[e1]; congr 1; omega,by rw[Vf (by omega),hl,Z6]; exact e2,e3⟩
def GhP (c:Mc) (b level:Nat) (seen:List (List Int)) (sub:List Nd) (vs:List Vw):Prop:=Unq vs/\∃ gs:List Gh,gs.length=sub.length/\gs[0]? = some ⟨level,seen⟩/\Lnk b sub gs/\Qdd c sub gs vs
def KGh (c:Mc) (b level:Nat) (seen:List (List Int)) (x0:Int) (nx:List Int) (subs:List Nd) (vs:List Vw):Prop:=Unq vs/\∃ gs:List Gh,gs.length=subs.length/\(∀ (k:Nat) (d:Int),nx[k]? = some d->∃ (m:Nat) (z:Gh),d=((b+m:Nat):Int)/\gs[m]? = some z/\QeP seen z.sn x0 k/\z.lv=level)/\Lnk b subs gs/\Qdd c subs gs vs
theorem KGh.zero {c:Mc} {b level:Nat} {seen:List (List Int)} {x0:Int} {vs:List Vw} (h:Unq vs):KGh c b level seen x0 [] [] vs :=
 ⟨h,[],rfl,λk d h=>by simp at h,λj x y h=>by simp at h,λj x y h=>by simp at h⟩
theorem KGh.snoc {c:Mc} {b level:Nat} {seen now:List (List Int)} {x0:Int} {nx:List Int} {subs sub:List Nd} {vs vs':List Vw} (h:KGh c b level seen x0 nx subs vs) (hn:QeP seen now x0 nx.length) (hp:GhP c (b+subs.length) level now sub (vs++vs')) :
 KGh c b level seen x0 (nx++[((b+subs.length:Nat):Int)]) (subs++sub) (vs++vs'):=by
 obtain⟨_,g1,l1,k1,n1,f1⟩:=h;obtain⟨u2,g2,l2,r2,n2,f2⟩:=hp;refine⟨u2,g1++g2,by simp[l1,l2],λk d hd => ?_,n1.app l1 n2,(f1.mono vs').app l1 f2⟩;by_cases hk:k<nx.length
 . rw[Vd hk]at hd;obtain⟨m,z,e1,e2,e3⟩:=k1 k d hd;exact⟨m,z,e1,by rw[Vd (Qb e2)]; exact e2,e3⟩
 . rw[Vf (by omega)]at hd;have hlt:=Qb hd;have e:k=nx.length:=by simp at hlt; omega
   subst e;simp at hd;exact⟨subs.length,_,hd.symm,by rw[Vf (by omega),l1,ZP]; exact r2,hn,rfl⟩
def Qez (c:Mc) (A B:Wu) (s:Ms) (level:Nat) (seen:List (List Int)) (o:Out) (G':Wu):Prop :=
 o=.ret (i64 s.ns.length)/\∃ s' sub isN vsN,QfV c s s' level (c.lv.length-level) sub isN vsN/\GhP c s.ns.length level seen sub s'.vs/\G'=c.hp A B s'
def Qd3 (c:Mc) (level:Nat):Prop :=
 ∀ (A B:Wu) (s:Ms) (seen:List (List Int)),Qb9 c s level->Unq s.vs->1<=s.pend->(seen.length:Int)=c.pl->(∀ l∈seen,l.length<=level) ->
  OkP Try.prog 35 [.ptr (.own (A.length+1) 0 0 0 0) 0,i64 level,Qa9 seen] (c.hp A B s) (Qez c A B s level seen)
structure Qct (c:Mc) (s s':Ms) (level h:Nat) (nx:List Int) (subs:List Nd) (isN:List (Int×Int)) (vsN:List Vw):Prop where
 ns:s'.ns=s.ns++subs
 is:s'.is=s.is++isN
 vs:s'.vs=s.vs++vsN
 pend:s'.pend=s.pend-nx.length
 lv:∀ v∈vsN,(level:Int)<=v.lv
 kds:Kds s.ns.length h nx subs
 rg:rg subs s.is.length=some s'.is.length
 good:∀ x∈subs,x.good c.pl s'.is
 inv:Qb9 c s' level
theorem Qct.zero {c:Mc} {s:Ms} {level h:Nat} (hi:Qb9 c s level):Qct c s s level h [] [] [] [] :=
 ⟨by simp,by simp,by simp,by simp,by simp,Kds.nil _ _,by simp[Proofs.Ytogjmpkehjfecaa.Rc.rg],by simp,hi⟩
theorem Qct.snoc {c:Mc} {s s1 s2:Ms} {level h:Nat} {nx:List Int} {subs sub:List Nd} {i1 i2:List (Int×Int)} {v1 v2:List Vw} (hk:Qct c s s1 level h nx subs i1 v1) (hp:QfV c s1 s2 level h sub i2 v2) :
 Qct c s s2 level h (nx++[(s1.ns.length:Int)]) (subs++sub) (i1++i2) (v1++v2):=by
 refine⟨?_,?_,?_,?_,?_,?_,?_,?_,hp.inv⟩
 . rw[hp.ns,hk.ns,VF]
 . rw[hp.is,hk.is,VF]
 . rw[hp.vs,hk.vs,VF]
 . rw[hp.pend,hk.pend]; simp; omega
 . intro v hv;rcases Vj.1 hv with h|h
   . exact hk.lv v h
   . exact hp.lv v h
 . exact hk.kds.snoc hp.wlk (by rw[hk.ns]; simp)
 . rw[Qhw,hk.rg]; exact hp.rg
 . intro x hx;rcases Vj.1 hx with h|h
   . rw[hp.is]; exact(hk.good x h).app _
   . exact hp.good x h
section
variable {A B:Wu} {c:Mc} {s:Ms}
def QW (A B:Wu) (ch:Bool) (x0 info:Int) (nx ws:List Int):AO :=
 ⟨[i64 (if ch=true then 1 else 2),i64 (if ch=true then 0 else x0),i64 (if ch=true then 0 else info),.own (A.length+(B.length+9)) 0 nx.length 1 nx.length,if ch=true then .own (A.length+(B.length+10)) 0 ws.length 1 ws.length else .val (.slice none 0 0),.val (.slice none 0 0)],59,0,true⟩
def QH (l:List Int):AO:=⟨Qa l,3,l.length,true⟩
theorem Qsr {n:Nat} (hA:Cl n A) (hB:Cl n B) (hn:A.length+6<=n):Cl n (c.hp A B s):=by
 unfold Mc.hp;refine hA.app ?_;refine Cl.cons (by simp[Mc.D,SV.underL,SV.under]) (Cl.cons (by simp only[Mc.M,SV.underL,SV.under,Va,Wd,Bool.and_true]; refine⟨?_,?_,?_,?_,?_,?_,?_,?_,?_,?_⟩<;>first|omega|rfl) (Cl.cons ?_ (Cl.cons ?_ (Cl.cons ?_ (Cl.cons ?_ hB)))))
 . exact QcK (λx=>by simp[lcN,SV.underL,SV.under]) _
 . exact QcK (λx=>by simp[Vw.cells,SV.underL,SV.under]) _
 . exact QcK (QiY _) _
 . exact QcK (λx=>by simp[icN,SV.underL,SV.under]) _
def w60:IC:=match Qdw with
 |.keep _ (.seq _ (.seq (.blk 1 (.seq _ (.seq _ (.seq _ w)))) _))=>w
 |_=>.skip
set_option maxRecDepth 10000 in
theorem Qpg {l:List (List Int)} {ch:Bool} {x0 x1 x2 info:Int} {level:Nat} {g:AO} {s':Ms} {N:Nat} {K:Wt} (hb:Qd3 c (level+1)) {nx ws:List Int} {L L2:Wu} {env:Env} (hl:(l.length:Int)=c.pl) (hll:∀ x∈l,x.length<=level+1) (hi:Qb9 c s' (level+1)) (hu:Unq s'.vs) (hp:1<=s'.pend) (hm:level<=1000) (hx:nx.length<=1000) (hns:s'.ns.length<=100000)
 (h0:env.get 0=.ptr (.own (A.length+1) 0 0 0 0) 0) (h1:env.get 1=i64 level) (h11:env.get 11=.ptr (.own (A.length+(B.length+8)) 0 0 0 0) 0) (h13:env.get 13=.own (A.length+(B.length+(L.length+11))) 0 l.length 1 l.length)
 (hK:∀ env' v1 v2 s2 sub isN vsN,QfV c s' s2 (level+1) (c.lv.length-(level+1)) sub isN vsN->GhP c s'.ns.length (level+1) l sub s2.vs->(∀ t,t<185->env'.get t=env.get t)->K .normal env' (c.hp A (B++g::⟨[i64 x0,i64 x1,i64 x2],85,0,true⟩::QW A B ch x0 info (nx++[(s'.ns.length:Int)]) ws::QH (nx++[(s'.ns.length:Int)])::QH ws::(L++⟨[],36,v1,false⟩::(L2++[⟨[i64 v2],3,0,true⟩]))) s2)) :
 X Try.prog N Qh w60 env (c.hp A (B++g::⟨[i64 x0,i64 x1,i64 x2],85,0,true⟩::QW A B ch x0 info nx ws::QH nx::QH ws::(L++Qa7 l::L2)) s') K:=by
 have w1:IntKind.i64.wrap ((level:Int)+1)=((level+1:Nat):Int):=QaQ (by omega);simp -implicitDefEqProofs[w60,Qdw,h0,h1,h11,h13,QW,Mc.hp,w1];have hb':=hb A (B++g::⟨[i64 x0,i64 x1,i64 x2],85,0,true⟩::QW A B ch x0 info nx ws::QH nx::QH ws::(L++⟨[],36,l.length+1,false⟩::L2)) s' l hi hu hp hl hll;refine Q6 (OkP.give (A.length+(B.length+(L.length+11))) 1 (o:=Qa7 l) ?_ rfl (OkP.cast ?_ ?_ hb')) ?_
 . simp only[QbL,Qg2,VS,QfX,Yo]
 . simp[Qa7,Qa9,VE]
 . simp[Go.Ab.set_app,Qk4,Qha,Mc.hp,QW,Qa7,AO.dead]
 rintro o G' ⟨rfl,s2,sub,isN,vsN,hp2,hgh,rfl⟩;simp -implicitDefEqProofs[w60,Qdw,h0,h1,h11,h13,QW,Mc.hp,w1];refine⟨by omega,by omega,⟨rfl,rfl,rfl,by simp[QH]⟩,?_⟩;have e:Qa (nx++[(s'.ns.length:Int)])=Qa nx++[i64 s'.ns.length]:=by simp[Qa]
 have:=hK ((194,(SV.own (A.length+(B.length+8)) 0 0 0 0).ptr 3)::(193,SV.own (A.length+(B.length+9)) 0 (nx.length+1) 1 (nx.length+1))::(192,SV.own (A.length+(B.length+(L.length+(L2.length+12)))) 0 1 1 0)::(191,i64 s'.ns.length)::(190,SV.own (A.length+(B.length+(L.length+11))) 0 l.length 1 l.length)::(189,i64 (level+1))::(188,i64 level) ::
  (187,(SV.own (A.length+1) 0 0 0 0).ptr 0)::(186,SV.own (A.length+(B.length+9)) 0 nx.length 1 nx.length)::(185,(SV.own (A.length+(B.length+8)) 0 0 0 0).ptr 3)::env) (l.length+1) s'.ns.length s2 sub isN vsN hp2 hgh (λt ht=>by
   simp only[Env.get];repeat rw[Wa (by omega)])
 simpa[Mc.hp,QW,QH,e]using this
set_option maxRecDepth 10000 in
theorem Qpp {seen:List (List Int)} {ch:Bool} {x0 x1 x2 info:Int} {level many:Nat} {g:AO} {s1:Ms} {N:Nat} {K:Wt} (hc:c.Good) (hb:Qd3 c (level+1)) (hA:Cl (A.length+(B.length+6)) A) (hB:Cl (A.length+(B.length+6)) B) (hg:Cl 0 [g])
 (hs:(seen.length:Int)=c.pl) (hsl:∀ l∈seen,l.length<=level) (hlv:level<c.lv.length) (hmy:many<=3) (hx0:ch=decide (x0<0)) (hp1:(many:Int)<=s1.pend) {at':Nat}
 (hexit:∀ env L s' nx ws subs isN vsN,nx.length=many->Qct c s1 s' (level+1) (c.lv.length-(level+1)) nx subs isN vsN->KGh c s1.ns.length (level+1) seen x0 nx subs s'.vs->(ws.length=if ch=true then many else 0)->(∀ w∈ws,1<=w/\w<=3)->Cl 0 L ->
  env.get 0=.ptr (.own (A.length+1) 0 0 0 0) 0->env.get 7=i64 at'->env.get 11=.ptr (.own (A.length+(B.length+8)) 0 0 0 0) 0 ->
  K (.exit 0) env (c.hp A (B++g::⟨[i64 x0,i64 x1,i64 x2],85,0,true⟩::QW A B ch x0 info nx ws::QH nx::QH ws::L) s')) :
 ∀ (n:Nat) (env:Env) (L:Wu) (s':Ms) (nx ws:List Int) (subs:List Nd) (isN:List (Int×Int)) (vsN:List Vw),nx.length+n=many->Qct c s1 s' (level+1) (c.lv.length-(level+1)) nx subs isN vsN->KGh c s1.ns.length (level+1) seen x0 nx subs s'.vs ->
  (ws.length=if ch=true then nx.length else 0)->(∀ w∈ws,1<=w/\w<=3)->Cl 0 L ->
  env.get 0=.ptr (.own (A.length+1) 0 0 0 0) 0->env.get 1=i64 level->env.get 2=Qa9 seen->env.get 7=i64 at'->env.get 8=.ptr (.own (A.length+(B.length+7)) 0 0 0 0) 0->env.get 9=i64 many->env.get 11=.ptr (.own (A.length+(B.length+8)) 0 0 0 0) 0->env.get 12=i64 nx.length ->
  LI Try.prog N Qh Qdw env (c.hp A (B++g::⟨[i64 x0,i64 x1,i64 x2],85,0,true⟩::QW A B ch x0 info nx ws::QH nx::QH ws::L) s') K:=by
 intro n
 induction n with
 |zero =>
  intro env L s' nx ws subs isN vsN hn hk hkg hws hw hL h0 h1 h2 h7 h8 h9 h11 h12;refine Qc hm' Qdw.eq_1 ?_;simp -implicitDefEqProofs[h0,h1,h2,h7,h8,h9,h11,h12,show ¬ nx.length<many by omega];refine hexit _ L s' nx ws subs isN vsN (by omega) hk hkg (by rw[hws]; split<;>omega) hw hL ?_ ?_ ?_<;>simp[h0,h7,h11]
 |succ n ih =>
  intro env L s' nx ws subs isN vsN hn hk hkg hws hw hL h0 h1 h2 h7 h8 h9 h11 h12;refine Qc hm' Qdw.eq_1 ?_;have hlt:nx.length<many:=by omega
  have w1:IntKind.i64.wrap ((nx.length:Int)+1)=((nx.length+1:Nat):Int):=QaQ (by omega);have hps:=hk.pend;have hil:=hk.inv.ml;have hcm:=hc.m;have hcl':=hc.lv;have hcp:=hc.p2;have key:∀ (ws':List Int) (s2:Ms) (L2:Wu) (env:Env),Qct c s1 s2 (level+1) (c.lv.length-(level+1)) nx subs isN vsN->KGh c s1.ns.length (level+1) seen x0 nx subs s2.vs->(ws'.length=if ch=true then nx.length+1 else 0)->(∀ w∈ws',1<=w/\w<=3)->Cl 0 L2 ->
   env.get 0=.ptr (.own (A.length+1) 0 0 0 0) 0->env.get 1=i64 level->env.get 2=Qa9 seen->env.get 7=i64 at'->env.get 8=.ptr (.own (A.length+(B.length+7)) 0 0 0 0) 0->env.get 9=i64 many->env.get 11=.ptr (.own (A.length+(B.length+8)) 0 0 0 0) 0->env.get 12=i64 nx.length ->
   env.get 13=.own (A.length+(B.length+(L2.length+11))) 0 0 1 0->env.get 14=i64 0 ->
   ∀ K' K2:Wt,(∀ env H,X Try.prog N Qh w60 env H K2->K' (.exit 2) env H)->(∀ (e:Env) (H:Wu),e.get 12=i64 nx.length->LI Try.prog N Qh Qdw ((12,i64 ((nx.length+1:Nat):Int))::(135,i64 ((nx.length+1:Nat):Int))::(134,i64 nx.length)::e) H K->K2 .normal e H) ->
   LI Try.prog N Qh Qe1 env (c.hp A (B++g::⟨[i64 x0,i64 x1,i64 x2],85,0,true⟩::QW A B ch x0 info nx ws'::QH nx::QH ws'::(L2++[Qa7 []])) s2) K':=by
   intro ws' s2 L2 env hk2 hkg2 hws2 hw2 hL2 g0 g1 g2 g7 g8 g9 g11 g12 g13 g14 K' K2 hK' hK2;have hps2:=hk2.pend;have hil2:=hk2.inv.ml;have hm:A.length+(B.length+6)<=A.length+((B++g::⟨[i64 x0,i64 x1,i64 x2],85,0,true⟩::QW A B ch x0 info nx ws'::QH nx::QH ws'::L2).length+6):=by simp
   have hclo:closed (c.hp A (B++g::⟨[i64 x0,i64 x1,i64 x2],85,0,true⟩::QW A B ch x0 info nx ws'::QH nx::QH ws'::L2) s2):=by
    rw[QjZ,Qcj];refine Qsr (hA.mono hm) ((hB.mono hm).app ?_) (by omega);refine Cl.cons ((SV.underL_iff _ _).2 λy hy=>SV.under_mono (YE _) y (hg g (by simp) y hy)) (Cl.cons (by simp[SV.underL,SV.under]) (Cl.cons ?_ (Cl.cons (QjN _ _) (Cl.cons (QjN _ _) (hL2.mono (YE _))))))
    cases ch<;>simp[QW,SV.underL,SV.under]<;>omega
   refine LI.cong (H':=c.hp A ((B++g::⟨[i64 x0,i64 x1,i64 x2],85,0,true⟩::QW A B ch x0 info nx ws'::QH nx::QH ws'::L2)++Qa7 []::[]) s2) (by simp) ?_;refine Qs8 (seen:=seen) (m:=level) (jp:=B.length+1) (x0:=x0) (x1:=x1) (x2:=x2) (i:=nx.length) (y1:=level) (y7:=at') (y9:=many) (y11:=A.length+(B.length+8)) hclo (by omega) hsl (by omega) (by simp) (λenv L l hL hl hl2 hnq k0 k1 k2 k7 k8 k9 k11 k12 k13 => ?_) seen.length env [] [] (by simp) (Cl.nil _) (by simp) (Qc2.nil _ _ _) g0 g1 g2 g7 (by rw[g8]) g9 g11 g12 (by rw[g13]; simp; omega) g14;refine hK' _ _ ?_;have e:c.hp A ((B++g::⟨[i64 x0,i64 x1,i64 x2],85,0,true⟩::QW A B ch x0 info nx ws'::QH nx::QH ws'::L2)++Qa7 l::L) s2=c.hp A (B++g::⟨[i64 x0,i64 x1,i64 x2],85,0,true⟩::QW A B ch x0 info nx ws'::QH nx::QH ws'::(L2++Qa7 l::L)) s2:=by simp
   rw[e];refine Qpg hb (l:=l) (L:=L2) (L2:=L) (by rw[hl]; exact hs) hl2 hk2.inv hkg2.1 (by omega) (by omega) (by omega) (by omega) k0 k1 k11 (by rw[k13,hl]; simp; omega) (λenv' v1 v2 s3 sub isN' vsN' hpo hgh he => ?_);refine hK2 _ _ (by rw[he 12 (by omega)]; exact k12) ?_;refine ih _ _ s3 (nx++[(s2.ns.length:Int)]) ws' _ _ _ (by simp; omega) (hk2.snoc hpo) (by
    have e1:s2.ns.length=s1.ns.length+subs.length:=by rw[hk2.ns]; simp
    have e2:=hpo.vs;rw[e1]at hgh ⊢;rw[e2]at hgh ⊢;exact hkg2.snoc (hnq.full hl) hgh) (by simpa using hws2) hw2 (hL2.app (Cl.cons rfl (hL.app (Cl.cons rfl (Cl.nil _))))) ?_ ?_ ?_ ?_ ?_ ?_ ?_ ?_
   all_goals simp[he,k0,k1,k2,k7,k8,k9,k11]
  cases ch with
  |true =>
   have hneg:x0<0:=by simpa using hx0.symm
   simp -implicitDefEqProofs[h0,h1,h2,h7,h8,h9,h11,h12,hlt,hneg,QW,Mc.hp,Mc.M];have h59:=Qel (A:=A) (c:=c) (B:=B++g::⟨[i64 x0,i64 x1,i64 x2],85,0,true⟩::QW A B true x0 info nx ws::QH nx::QH ws::L) (n:=3) (s:=s') hc.l hk.inv.a0 (by omega);refine Q6 (by simpa[Mc.hp,Mc.M,QW]using h59) ?_;rintro o G' ⟨v,a,rfl,hv1,hv2,hv3,rfl⟩;have w2:IntKind.i64.wrap (1+v)=1+v:=Qi (by omega) (by omega);simp -implicitDefEqProofs[h0,h1,h2,h7,h8,h9,h11,h12,hlt,hneg,QW,Mc.hp,Mc.M,w2,QH];simp at hws;refine⟨by omega,by omega,?_⟩;have hk3:Qct c s1 { s' with at':=a } (level+1) (c.lv.length-(level+1)) nx subs isN vsN:=⟨hk.ns,hk.is,hk.vs,hk.pend,hk.lv,hk.kds,hk.rg,hk.good,⟨hv1,hk.inv.vl,hk.inv.vi,hk.inv.vsn,hk.inv.used,hk.inv.isr,hk.inv.nsr,hk.inv.il,hk.inv.ml⟩⟩;refine LI.cong (H':=c.hp A (B++g::⟨[i64 x0,i64 x1,i64 x2],85,0,true⟩::QW A B true x0 info nx (ws++[1+v])::QH nx::QH (ws++[1+v])::((L++[⟨[i64 (1+v)],3,0,true⟩])++[Qa7 []])) { s' with at':=a }) (by simp[Mc.hp,Mc.M,QW,Qa7,QH,show Qa (ws++[1+v])=Qa ws++[i64 (1+v)]by simp[Qa]])
    (key (ws++[1+v]) _ _ _ hk3 hkg (by simp; omega) ?_ (hL.app (Cl.cons rfl (Cl.nil _))) ?_ ?_ ?_ ?_ ?_ ?_ ?_ ?_ ?_ ?_ _ _ (λenv H hX=>by simp only[We]; exact hX) ?_)
   . intro w hw';rcases Vj.1 hw' with h|h
     . exact hw w h
     . simp at h; omega
   all_goals try (simp[h0,h1,h2,h7,h8,h9,h11,h12]; done)
   intro e H g12 hLI;simp -implicitDefEqProofs[g12,w1];exact hLI
  |false =>
   have hneg:¬ x0<0:=by simpa using hx0.symm
   simp -implicitDefEqProofs[h0,h1,h2,h7,h8,h9,h11,h12,hlt,hneg,QW,Mc.hp,Mc.M];refine LI.cong (H':=c.hp A (B++g::⟨[i64 x0,i64 x1,i64 x2],85,0,true⟩::QW A B false x0 info nx ws::QH nx::QH ws::(L++[Qa7 []])) s') (by simp[Mc.hp,Mc.M,QW,Qa7]) (key ws s' L _ hk hkg hws hw hL ?_ ?_ ?_ ?_ ?_ ?_ ?_ ?_ ?_ ?_ _ _ (λenv H hX=>by simp only[We]; exact hX) ?_);all_goals try (simp[h0,h1,h2,h7,h8,h9,h11,h12]; done)
   intro e H g12 hLI;simp -implicitDefEqProofs[g12,w1];exact hLI
end
def phN:Nd:=⟨0,0,0,[],[],[]⟩
structure Qd7 (c:Mc) (s s2:Ms) (level:Nat) (x0:Int) (info many:Nat):Prop where
 ns:s2.ns=s.ns++[phN]
 pend:s2.pend=s.pend-1
 a0:0<=s2.at'
 m3:1<=many/\many<=3
 set:(x0<0/\info=0/\s2.is=s.is/\s2.vs=s.vs) \/
  (0<=x0/\s2.is[info]? = some (x0,(many:Int))/\((s2.is=s.is/\s2.vs=s.vs/\∃ h:info<s.vs.length,s.vs[info].lv=level) \/
   (x0<c.pl/\info=s.is.length/\s2.is=s.is++[(x0,(many:Int))]/\∃ sn:List Int,sn.length<=100/\s2.vs=s.vs++[⟨x0,level,sn,info⟩])))
section
variable {c:Mc} {s s2 s3:Ms} {level info many:Nat} {x0:Int}
theorem Qnz {α:Type} (l:List α) (p x:α) (r:List α):(l++p::r).set l.length x=l++x::r:=by
 rw[Y2 _ _ (Vc _)]; simp
theorem QoQ {ps:List Int} {a:Int} {h:Nat} (hc:c.Good) (hi:Qb9 c s level) (hp1:1<=s.pend) (hns:s3.ns=s.ns++[phN]) (hpe:s3.pend=s.pend-1) (his:s3.is=s.is) (hvs:s3.vs=s.vs) (hps:(ps.length:Int)=c.pl) (hw:∀ w∈ps,-3<=w/\w<=3) (ha:0<=a) :
 QfV c s (s3.endN s.ns.length ps a) level h [⟨3,0,0,[],[],ps⟩] [] []:=by
 have e:(s3.endN s.ns.length ps a).ns=s.ns++[⟨3,0,0,[],[],ps⟩]:=by simp only[Ms.endN,hns]; exact Qnz _ _ _ _
 have ei:(s3.endN s.ns.length ps a).is=s.is:=his;have ev:(s3.endN s.ns.length ps a).vs=s.vs:=hvs;refine⟨e,by rw[ei]; simp,by rw[ev]; simp,hpe,by simp,Wlk.leaf _ _ rfl,by simp[rg,ei],?_,⟨ha,?_,?_,?_,?_,?_,?_,?_,?_⟩⟩
 . intro x hx;simp at hx; subst hx;exact .inr (.inr ⟨rfl,rfl,rfl,rfl,rfl,hps,λw h=>by have:=hw w h; omega⟩)
 . rw[ei,ev]; exact hi.vl
 . intro j hj;have hj':j<s.vs.length:=by rw[<-ev]; exact hj
   have:=hi.vi j hj';simp only[ei,ev]; exact this
 . rw[ev]; exact hi.vsn
 . intro j hj hl;have hj':j<s.vs.length:=by rw[<-ev]; exact hj
   simp only[ev]at hl;obtain⟨x,h1,h2⟩:=hi.used j hj' hl;exact⟨x,by rw[e]; exact VW _ h1,h2⟩
 . rw[ei]; exact hi.isr
 . intro x hx hk;rw[e]at hx;rcases Vj.1 hx with h|h
   . rw[ei]; exact hi.nsr x h hk
   . simp at h; subst h; simp at hk
 . rw[ei,e]; have:=hi.il; simp; omega
 . rw[e]; have:=hi.ml; have:(s3.endN s.ns.length ps a).pend=s.pend-1:=hpe; simp; omega
theorem Qd7.set' (hm:Qd7 c s s2 level x0 info many) (hi:Qb9 c s level):∃ i1 v1,s2.is=s.is++i1/\s2.vs=s.vs++v1/\(∀ v∈v1,v.lv=level/\v.sn.length<=100/\i1=[(v.pl,(many:Int))]/\v.inf=s.is.length/\0<=v.pl/\v.pl<c.pl)/\i1.length=v1.length/\i1.length<=1:=by
 rcases hm.set with ⟨_,_,h1,h2⟩|⟨h0,_,⟨h1,h2,_⟩|⟨h3,h4,h1,sn,h5,h2⟩⟩
 . exact⟨[],[],by simp[h1],by simp[h2],by simp,rfl,by simp⟩
 . exact⟨[],[],by simp[h1],by simp[h2],by simp,rfl,by simp⟩
 . exact⟨_,_,h1,h2,by simp[h5,h0,h3,h4],rfl,by simp⟩
theorem Qd7.inv (hm:Qd7 c s s2 level x0 info many) (hc:c.Good) (hi:Qb9 c s level) (hp1:1<=s.pend) (hle:(s.ns.length:Int)+1+s2.pend+many<=c.most):Qb9 c { s2 with pend:=s2.pend+many } (level+1):=by
 obtain⟨i1,v1,e1,e2,h1,h2,h3⟩:=hm.set' hi;have hvl:=hi.vl;refine⟨hm.a0,?_,?_,?_,?_,?_,?_,?_,?_⟩
 . simp only[e1,e2,Vy]; omega
 . intro j hj;simp only[e2,Vy]at hj;simp only[e1,e2];by_cases hj':j<s.vs.length
   . rw[Zo hj',Zo (by omega)];exact hi.vi j hj'
   . have hj2:j-s.vs.length<v1.length:=by omega
     rw[Za (by omega),Za (by omega)];obtain⟨k1,k2,k3,k4,k5,k6⟩:=h1 _ (Vg hj2);have:j=s.vs.length:=by omega
     refine⟨by rw[k4]; omega,?_⟩;simp only[k3]; simp
 . intro v hv;simp only[e2]at hv;rcases Vj.1 hv with h|h
   . exact hi.vsn v h
   . exact(h1 v h).2.1
 . intro j hj hl;simp only[e2,Vy]at hj hl;by_cases hj':j<s.vs.length
   . rw[Zo hj']at hl;obtain⟨x,k1,k2⟩:=hi.used j hj' (by omega);exact⟨x,by simp only[hm.ns]; exact VW _ k1,k2⟩
   . rw[Za (by omega)]at hl;have:=(h1 _ (Vg (show j-s.vs.length<v1.length by omega))).1;omega
 . intro q hq;simp only[e1]at hq;rcases Vj.1 hq with h|h
   . exact hi.isr q h
   . cases hv:v1 with
     |nil=>rw[hv]at h2; simp at h2; rw[h2]at h; simp at h
     |cons v r =>
      obtain⟨k1,k2,k3,k4,k5,k6⟩:=h1 v (by rw[hv]; simp);rw[k3]at h; simp at h; subst h;have:=hm.m3;exact⟨k5,k6,by omega,by omega⟩
 . intro x hx hk;simp only[hm.ns]at hx;rcases Vj.1 hx with h|h
   . have:=hi.nsr x h hk;simp only[e1,Vy]; omega
   . simp[phN]at h; subst h; simp at hk
 . have:=hi.il;simp only[e1,hm.ns,Vy,YP]; omega
 . simp only[hm.ns,Vy,YP]; have:=hm.pend; omega
def Q8 (ch:Bool) (x0:Int) (info:Nat) (nx ws:List Int):Nd:=if ch=true then⟨1,0,0,nx,ws,[]⟩else⟨2,x0,info,nx,[],[]⟩
theorem QtC {s4:Ms} {ch:Bool} {nx ws:List Int} {subs:List Nd} {isN:List (Int×Int)} {vsN:List Vw} {h':Nat} (hc:c.Good) (hi:Qb9 c s level) (hp1:1<=s.pend) (hm:Qd7 c s s2 level x0 info many) (hch:ch=decide (x0<0))
 (hk:Qct c { s2 with pend:=s2.pend+many } s4 (level+1) h' nx subs isN vsN) (hnx:nx.length=many) (hws:ws.length=if ch=true then many else 0) (hw:∀ w∈ws,1<=w/\w<=3) :
 ∃ isM vsM,QfV c s { s4 with ns:=s4.ns.set s.ns.length (Q8 ch x0 info nx ws) } level (h'+1) (Q8 ch x0 info nx ws::subs) isM vsM:=by
 obtain⟨i1,v1,e1,e2,h1,h2,h3⟩:=hm.set' hi;have hvl:=hi.vl;have m3:=hm.m3;have hns4:s4.ns=s.ns++phN::subs:=by rw[hk.ns]; simp[hm.ns]
 have his4:s4.is=s.is++(i1++isN):=by rw[hk.is]; simp[e1]
 have hvs4:s4.vs=s.vs++(v1++vsN):=by rw[hk.vs]; simp[e2]
 have e:s4.ns.set s.ns.length (Q8 ch x0 info nx ws)=s.ns++Q8 ch x0 info nx ws::subs:=by rw[hns4]; exact Qnz _ _ _ _
 have hkn:(Q8 ch x0 info nx ws).nx=nx:=by unfold Q8; split<;>rfl
 have hkd:Kds (s.ns.length+1) h' nx subs:=by have:=hk.kds; simp only[hm.ns,Vy,YP]at this; exact this
 have hinfo:ch=false->s4.is[info]? = some (x0,(many:Int))/\0<=x0/\x0<c.pl:=by
  intro hf;have hx:¬ x0<0:=by rw[hf]at hch; simpa using hch.symm
  have key:s2.is[info]? = some (x0,(many:Int)):=by
   rcases hm.set with ⟨h,_⟩|⟨_,h,_⟩
   . exact absurd h hx
   . exact h
  refine⟨by rw[hk.is,Vd (Qb key)]; exact key,by omega,?_⟩;have:=hk.inv.isr (x0,(many:Int)) (by rw[hk.is]; exact VW _ (Vn key));exact this.2.1
 refine⟨i1++isN,v1++vsN,e,his4,hvs4,?_,?_,Wlk.node (by rw[hkn]; exact hkd),?_,?_,?_⟩
 . show s4.pend=_;rw[hk.pend]; simp only[hm.pend,hnx]; omega
 . intro v hv;rcases Vj.1 hv with h|h
   . rw[(h1 v h).1]; exact V4 _
   . have:=hk.lv v h; omega
 . have hr:=hk.rg;simp only[e1]at hr
   cases ch with
   |true =>
    have hx:x0<0:=by simpa using hch.symm
    have hi1:i1=[]:=by
     rcases hm.set with ⟨_,_,h,_⟩|⟨h,_⟩
     . rw[e1]at h; simpa using h
     . omega
    rw[hi1]at hr; simp at hr;simp[rg,Q8]; exact hr
   |false =>
    have hx:¬ x0<0:=by simpa using hch.symm
    rcases hm.set with ⟨h,_⟩|⟨_,_,⟨h4,_,hlt,_⟩|⟨_,h4,h5,_⟩⟩
    . omega
    . have hi1:i1=[]:=by rw[e1]at h4; simpa using h4
      rw[hi1]at hr; simp at hr;rw[show Q8 false x0 info nx ws=⟨2,x0,info,nx,[],[]⟩from rfl];simp only[rg];rw[Wb trivial,Wa (by omega),Wb (by omega)]; exact hr
    . have hi1:i1=[(x0,(many:Int))]:=by rw[e1]at h5; simpa using h5
      rw[hi1]at hr; simp at hr;rw[show Q8 false x0 info nx ws=⟨2,x0,info,nx,[],[]⟩from rfl];simp only[rg];rw[Wb trivial,Wb (by omega)]; exact hr
 . intro x hx;rcases Vi.1 hx with rfl|hx
   . cases ch with
     |true=>exact .inl ⟨rfl,rfl,rfl,rfl,by simp[Q8]; omega,by simp[Q8]; omega,by simp at hws; simp[Q8]; omega,λw h=>by have:=hw w h; omega⟩
     |false =>
      obtain⟨k1,k2,k3⟩:=hinfo rfl;exact .inr (.inl ⟨rfl,rfl,rfl,by simp[Q8]; omega,by simp[Q8]; omega,k2,k3,by simp[Q8],by simp[Q8,hnx]; exact k1⟩)
   . exact hk.good x hx
 . have hin:∀ y∈s4.ns,y.k=2->y∈s4.ns.set s.ns.length (Q8 ch x0 info nx ws):=by
    intro y hy hy2;rw[hns4]at hy; rw[e];rcases Vj.1 hy with h|h
    . exact VW _ h
    . rcases Vi.1 h with rfl|h
      . simp[phN]at hy2
      . exact V9 _ (VO _ h)
   refine⟨hk.inv.a0,hk.inv.vl,hk.inv.vi,hk.inv.vsn,?_,hk.inv.isr,?_,?_,?_⟩
   . intro j hj hl;by_cases hj2:((level+1:Nat):Int)<=s4.vs[j].lv
     . obtain⟨x,k1,k2,k3⟩:=hk.inv.used j hj hj2;exact⟨x,hin x k1 k2,k2,k3⟩
     . have hlv:s4.vs[j].lv=level:=by show s4.vs[j].lv=_; have:(level:Int)<=s4.vs[j].lv:=hl; omega
       by_cases hj3:j<s.vs.length
       . have ej:s4.vs[j]=s.vs[j]:=by simp only[hvs4]; rw[Zo hj3]
         obtain⟨x,k1,k2,k3⟩:=hi.used j hj3 (by rw[<-ej,hlv]; exact V4 _);exact⟨x,by show x∈s4.ns.set _ _; rw[e]; exact VW _ k1,k2,k3⟩
       . by_cases hj4:j-s.vs.length<v1.length
         . have hv1:v1.length=1:=by omega
           rcases hm.set with ⟨_,_,_,h⟩|⟨hx0,_,⟨_,h,_⟩|⟨_,h4,_,sn,_,h⟩⟩
           . rw[e2]at h; simp at h; rw[h]at hv1; simp at hv1
           . rw[e2]at h; simp at h; rw[h]at hv1; simp at hv1
           . have hcf:ch=false:=by rw[hch]; simpa using hx0
             refine⟨Q8 ch x0 info nx ws,by show _∈s4.ns.set _ _; rw[e]; simp,by rw[hcf]; rfl,?_⟩;rw[hcf]; show(info:Int)=j; omega
         . exfalso;have hj5:j-s.vs.length-v1.length<vsN.length:=by
            have:j<s4.vs.length:=hj;rw[hvs4]at this; simp at this; omega
           have ej:s4.vs[j]=vsN[j-s.vs.length-v1.length]:=by
            simp only[hvs4]; rw[Za (by omega),Za (by omega)]
           have:=hk.lv _ (Vg hj5);rw[<-ej]at this; omega
   . intro x hx hx2;have hx':x∈s.ns++Q8 ch x0 info nx ws::subs:=by rw[<-e]; exact hx
     rcases Vj.1 hx' with h|h
     . exact hk.inv.nsr x (by rw[hns4]; exact VW _ h) hx2
     . rcases Vi.1 h with rfl|h
       . cases hcc:ch with
         |true=>rw[hcc]at hx2; simp[Q8]at hx2
         |false =>
          have:=Qb (hinfo hcc).1;show 0<=(info:Int)/\(info:Int)<s4.is.length;omega
       . exact hk.inv.nsr x (by rw[hns4]; exact V9 _ (VO _ h)) hx2
   . show s4.is.length<=(s4.ns.set _ _).length;rw[VK]; exact hk.inv.il
   . show((s4.ns.set _ _).length:Int)+s4.pend<=_;rw[VK]; exact hk.inv.ml
end
structure QjB (c:Mc) (s2:Ms) (level:Nat) (x0:Int) (info:Nat) (seen:List (List Int)):Prop where
 un:Unq s2.vs
 lv:lvF c level=x0
 vw:0<=x0->∃ s v,seen[x0.toNat]? = some s/\s2.vs[info]? = some v/\v.pl=x0/\v.lv=level/\v.sn=s
theorem QlO {c:Mc} {b level:Nat} {seen:List (List Int)} {x:Nd} {vs:List Vw} (hk:x.k=3) (hx:x.nx=[]) (h:Unq vs):GhP c b level seen [x] vs:=by
 have hj:∀ (j:Nat) (y:Nd),[x][j]? = some y->y=x:=λj y h=>by
  have:=Vn h;simpa using this
 refine⟨h,[⟨level,seen⟩],rfl,rfl,λj y z hy hz k d hd => ?_,λj y z hy hz => ?_⟩
 . rw[hj j y hy,hx]at hd; simp at hd
 . rw[hj j y hy];exact⟨λh=>by omega,λh=>by omega⟩
theorem Que {c:Mc} {s2:Ms} {b level info:Nat} {x0:Int} {seen:List (List Int)} {ch:Bool} {nx ws:List Int} {subs:List Nd} {vsN:List Vw} (hg:QjB c s2 level x0 info seen) (hch:ch=decide (x0<0)) (hk:KGh c (b+1) (level+1) seen x0 nx subs (s2.vs++vsN)) :
 GhP c b level seen (Q8 ch x0 info nx ws::subs) (s2.vs++vsN):=by
 obtain⟨u,gs,l,k1,n1,f1⟩:=hk;refine⟨u,⟨level,seen⟩::gs,by simp[l],rfl,λj x y hx hy k d hd => ?_,λj x y hx hy => ?_⟩
 . cases j with
   |zero =>
    simp only[Yo,Option.some.injEq]at hx hy;subst hx; subst hy;have e:(Q8 ch x0 info nx ws).nx=nx:=by unfold Q8; split<;>rfl
    rw[e]at hd;obtain⟨m,z,e1,e2,e3,e4⟩:=k1 k d hd;refine⟨m+1,z,by rw[e1]; congr 1; omega,by simpa using e2,?_,e4⟩;refine⟨e3.1,λq hq => ?_⟩;obtain⟨e',a1,a2⟩:=e3.2 q hq;refine⟨e',a1,λhm=>a2 ?_⟩
    cases ch with
    |true =>
     have:(Q8 true x0 info nx ws).mvr = -1:=rfl;rw[this]at hm; omega
    |false =>
     have:(Q8 false x0 info nx ws).mvr=x0:=rfl;rw[this]at hm; exact hm
   |succ j =>
    simp only[VS]at hx hy;obtain⟨m,z,e1,e2,e3⟩:=n1 j x y hx hy k d hd;exact⟨m+1,z,by rw[e1]; congr 1; omega,by simpa using e2,e3⟩
 . cases j with
   |zero =>
    simp only[Yo,Option.some.injEq]at hx hy;subst hx; subst hy
    cases ch with
    |true =>
     have hn:x0<0:=by simpa using hch.symm
     exact⟨λh=>by simp[Q8]at h,λ_=>by rw[hg.lv]; exact hn⟩
    |false =>
     have hn:¬ x0<0:=by simpa using hch.symm
     obtain⟨s,v,h1,h2,h3⟩:=hg.vw (by omega);refine⟨λ_=>⟨hg.lv,by simp[Q8],by show 0<=x0; omega,s,v,h1,?_,h3⟩,λh=>by simp[Q8]at h⟩;show(s2.vs++vsN)[(info:Int).toNat]? = _;rw[Int.toNat_natCast,Vd (Qb h2)];exact h2
   |succ j =>
    simp only[VS]at hx hy;exact f1 j x y hx hy
def t60:IC:=IC.tl 8 i35
section
variable {A B:Wu} {c:Mc} {s s2:Ms} {level info many:Nat} {x0 x1 x2:Int} {seen:List (List Int)}
set_option maxRecDepth 10000 in
theorem QqP {env:Env} {g:AO} {N:Nat} (hc:c.Good) (hi:Qb9 c s level) (hp1:1<=s.pend) (hm:Qd7 c s s2 level x0 info many) (hus:Unq s.vs) (hgm:QjB c s2 level x0 info seen) (hb:Qd3 c (level+1)) (hcl:closed (c.hp A B s)) (hg:Cl 0 [g]) (hlv:level<c.lv.length)
 (hs:(seen.length:Int)=c.pl) (hsl:∀ l∈seen,l.length<=level) (h0:env.get 0=.ptr (.own (A.length+1) 0 0 0 0) 0) (h1:env.get 1=i64 level) (h2:env.get 2=Qa9 seen) (h7:env.get 7=i64 s.ns.length) (h8:env.get 8=.ptr (.own (A.length+(B.length+7)) 0 0 0 0) 0)
 (h9:env.get 9=i64 many) (h10:env.get 10=i64 info) :
 X Try.prog N Qh t60 env (c.hp A (B++[g,⟨[i64 x0,i64 x1,i64 x2],85,0,true⟩]) s2) (FinP (A.length+(B.length+6)) r35 (Qez c A B s level seen)):=by
 have hcm:=hc.m;have hml:=hi.ml;have m3:=hm.m3;have hpe:=hm.pend;have hcp:=hc.p2;have w1:IntKind.i64.wrap ((s.ns.length:Int)+1)=s.ns.length+1:=Qi (by omega) (by omega);have w2:IntKind.i64.wrap ((s.ns.length:Int)+1+s2.pend)=s.ns.length+1+s2.pend:=Qi (by omega) (by omega);have w3:IntKind.i64.wrap ((s.ns.length:Int)+1+s2.pend+many)=s.ns.length+1+s2.pend+many:=Qi (by omega) (by omega);have w4:IntKind.i64.wrap (s2.pend+many)=s2.pend+many:=Qi (by omega) (by omega);by_cases hgt:c.most<(s.ns.length:Int)+1+s2.pend+many
 . simp -implicitDefEqProofs[t60,IC.tl,i35,r35,h0,h1,h2,h7,h8,h9,h10,Mc.hp,Mc.M,w1,w2,w3,w4,hgt];obtain⟨i1,v1,e1,e2,hv1,hv2,hv3⟩:=hm.set' hi;have hvl:=hi.vl;have hil:=hi.il;have hn2:s2.ns.length=s.ns.length+1:=by simp[hm.ns]
   have hd:=ok61 (A:=A) (B:=B++[g,⟨[i64 x0,i64 x1,i64 x2],85,0,true⟩]) (c:=c) (s:=s2) (info:=info) (pl:=x0) (by omega) (by rw[e1]; simp; omega) (λh=>by
    rcases hm.set with ⟨h',_⟩|⟨_,h',_⟩
    . omega
    . have:=Qb h'; omega) (by rw[e1,e2]; simp; omega)
   refine Q6 hd ?_;rintro o G' ⟨rfl,hcase⟩;obtain⟨s3,rfl,k1,k2,k3,k4,k5⟩:∃ s3,G'=c.hp A (B++[g,⟨[i64 x0,i64 x1,i64 x2],85,0,true⟩]) s3/\s3.ns=s.ns++[phN]/\s3.pend=s.pend-1/\s3.is=s.is/\s3.vs=s.vs/\0<=s3.at':=by
    rcases hcase with ⟨hcond,rfl⟩|⟨hx,hcond,hno,rfl⟩
    . refine⟨s2,rfl,hm.ns,hm.pend,?_,?_,hm.a0⟩<;>rcases hm.set with ⟨_,_,h,h'⟩|⟨hx,_,⟨h,h',_⟩|⟨_,h4,h,sn,_,h'⟩⟩
      all_goals first
       |exact h
       |exact h'
       |skip
      all_goals
       exfalso;rcases hcond with hh|hh|⟨x,hx1,hx2,hx3⟩
       . omega
       . rw[h]at hh; simp at hh; omega
       . rw[hm.ns]at hx1;rcases Vj.1 hx1 with hx1|hx1
         . have:=hi.nsr x hx1 hx2; omega
         . simp[phN]at hx1; subst hx1; simp at hx2
    . refine⟨s2.cut,rfl,hm.ns,hm.pend,?_,?_,hm.a0⟩<;>rcases hm.set with ⟨hx',_⟩|⟨_,h6,⟨h,h',hlt,hlv'⟩|⟨_,h4,h,sn,_,h'⟩⟩
      . omega
      . exfalso;obtain⟨x,hx1,hx2,hx3⟩:=hi.used info hlt (by rw[hlv']; exact V4 _);exact hno x (by rw[hm.ns]; exact VW _ hx1) ⟨hx2,hx3⟩
      . simp[Ms.cut,h]
      . omega
      . exfalso;obtain⟨x,hx1,hx2,hx3⟩:=hi.used info hlt (by rw[hlv']; exact V4 _);exact hno x (by rw[hm.ns]; exact VW _ hx1) ⟨hx2,hx3⟩
      . simp[Ms.cut,h']
   simp -implicitDefEqProofs[h0,h1,h2,h7,h8,h9,h10];refine Q6 (ok59 (k:=s.ns.length) hc.l k5 hc.p1 hc.p2 (by rw[k1]; simp) (by rw[k1]; simp; omega)) ?_;rintro o G' ⟨rfl,ps,a,p1,p2,p3,rfl⟩;simp -implicitDefEqProofs[h0,h1,h2,h7,h8,h9,h10];exact⟨_,_,⟨rfl,_,_,_,_,QoQ hc hi hp1 k1 k2 k3 k4 p1 p2 p3,QlO rfl rfl (by show Unq s3.vs; rw[k4]; exact hus),rfl⟩,by rw[<-Qcj]; exact QhT hcl rfl (Qcd _ _ _ _ _)⟩
 . simp -implicitDefEqProofs[t60,IC.tl,i35,r35,h0,h1,h2,h7,h8,h9,h10,Mc.hp,Mc.M,w1,w2,w3,w4,hgt];have hfin:∀ (ch:Bool),ch=decide (x0<0)->∀ (env:Env) (L:Wu) (s':Ms) (nx ws:List Int) (subs:List Nd) (isN:List (Int×Int)) (vsN:List Vw),nx.length=many->Qct c { s2 with pend:=s2.pend+many } s' (level+1) (c.lv.length-(level+1)) nx subs isN vsN->KGh c (s.ns.length+1) (level+1) seen x0 nx subs s'.vs->(ws.length=if ch=true then many else 0)->(∀ w∈ws,1<=w/\w<=3)->Cl 0 L ->
    env.get 0=.ptr (.own (A.length+1) 0 0 0 0) 0->env.get 7=i64 s.ns.length->env.get 11=.ptr (.own (A.length+(B.length+8)) 0 0 0 0) 0 ->
    X Try.prog N Qh (IC.tl 5 t60) env (c.hp A (B++g::⟨[i64 x0,i64 x1,i64 x2],85,0,true⟩::QW A B ch x0 info nx ws::QH nx::QH ws::L) s') (FinP (A.length+(B.length+6)) r35 (Qez c A B s level seen)):=by
    intro ch hch env L s' nx ws subs isN vsN hnx hk hkg hws hw hL g0 g7 g11;obtain⟨isM,vsM,hpo⟩:=QtC hc hi hp1 hm hch hk hnx hws hw;have hlt:s.ns.length<s'.ns.length:=by rw[hk.ns]; simp[hm.ns]
    have hle:=QkC Nd.lenN hlt;simp -implicitDefEqProofs[t60,IC.tl,i35,r35,g0,g7,g11,Mc.hp,Mc.M,QW];refine⟨hlt,⟨by cases ch<;>rfl,rfl⟩,by simpa[Mc.N]using hle,_,_,⟨rfl,_,_,_,_,(by rw[show c.lv.length-level=c.lv.length-(level+1)+1 by omega]; exact hpo),(by
     have e2:s'.vs=s2.vs++vsN:=hk.vs;rw[e2]at hkg;show GhP c s.ns.length level seen _ s'.vs;rw[e2];exact Que hgm hch hkg),rfl⟩,?_⟩
    have f1:=QdF (n:=A.length+(B.length+6)) (ks:=[]) (L:=g::⟨[i64 x0,i64 x1,i64 x2],85,0,true⟩::QW A B ch x0 info nx ws::QH nx::QH ws::L) (d:=1) 3 0 nx.length 1 nx.length;have f2:=QdF (n:=A.length+(B.length+6)) (ks:=[]) (L:=g::⟨[i64 x0,i64 x1,i64 x2],85,0,true⟩::QW A B ch x0 info nx ws::QH nx::QH ws::L) (d:=1) 4 0 ws.length 1 ws.length;have z1:(Qa nx).length=nx.length:=by simp[Qa]
    have z2:(Qa ws).length=ws.length:=by simp[Qa]
    have hne:nx≠[]:=by intro e; subst e; simp at hnx; omega
    have hcl2:closed (c.hp A B s'):=QkY hcl;have:=QoB (A:=A) (B:=B) (c:=c) (s:=s') (n0:=A.length+(B.length+6)) (k:=s.ns.length) (L:=g::⟨[i64 x0,i64 x1,i64 x2],85,0,true⟩::QW A B ch x0 info nx ws::QH nx::QH ws::L) (r:=i64 s.ns.length) (x:=Q8 ch x0 info nx ws)
     (cx:=[i64 (if ch=true then 1 else 2),i64 (if ch=true then 0 else x0),i64 (if ch=true then 0 else info),.own (A.length+(B.length+9)) 0 nx.length 1 nx.length,if ch=true then .own (A.length+(B.length+10)) 0 ws.length 1 ws.length else .val (.slice none 0 0),.val (.slice none 0 0)]) hcl2 (Vc _) hlt (by
      rw[show A.length+(B.length+9)=A.length+(B.length+6)+3 by omega,show A.length+(B.length+10)=A.length+(B.length+6)+4 by omega];simp[QY,QH,z1,z2,VE]at f1 f2
      cases ch with
      |true =>
       have hne2:ws≠[]:=by intro e; subst e; simp at hws; omega
       simp[Q8,Nd.cN,slN,hne,hne2,sl,f1,f2,QH,QY,z1,z2,VE]
      |false=>simp[Q8,Nd.cN,slN,hne,sl,f1,f2,QH,QY,z1,z2,VE])
    simp[Mc.hp,Mc.D,Mc.L,Mc.M,Mc.V,Mc.N,Mc.I,QW]at this ⊢;exact this
   have hinv:=hm.inv hc hi hp1 (by omega);have hA:Cl (A.length+(B.length+6)) A:=by have:=QjZ.1 hcl; rw[Qcj]at this; exact this.left
   have hB:Cl (A.length+(B.length+6)) B:=by have:=QjZ.1 hcl; rw[Qcj]at this; exact this.right.tail.tail.tail.tail.tail.tail
   have hloop:∀ (ch:Bool),ch=decide (x0<0)->∀ (env:Env) (K':Wt),(∀ env H,X Try.prog N Qh (IC.tl 5 t60) env H (FinP (A.length+(B.length+6)) r35 (Qez c A B s level seen))->K' (.exit 0) env H) ->
    env.get 0=.ptr (.own (A.length+1) 0 0 0 0) 0->env.get 1=i64 level->env.get 2=Qa9 seen->env.get 7=i64 s.ns.length->env.get 8=.ptr (.own (A.length+(B.length+7)) 0 0 0 0) 0->env.get 9=i64 many->env.get 11=.ptr (.own (A.length+(B.length+8)) 0 0 0 0) 0->env.get 12=i64 0 ->
    LI Try.prog N Qh Qdw env (c.hp A (B++g::⟨[i64 x0,i64 x1,i64 x2],85,0,true⟩::QW A B ch x0 info [] []::QH []::QH []::[]) { s2 with pend:=s2.pend+many }) K':=by
    intro ch hch env K' hK' g0 g1 g2 g7 g8 g9 g11 g12;refine Qpp (s1:={ s2 with pend:=s2.pend+many }) (level:=level) (many:=many) (seen:=seen) hc hb hA hB hg hs hsl hlv m3.2 hch (by show(many:Int)<=s2.pend+many; omega) (at':=s.ns.length) (λenv L s' nx ws subs isN vsN hnx hk hkg hws hw hL k0 k7 k11=>hK' _ _ (hfin ch hch env L s' nx ws subs isN vsN hnx hk (by simpa[hm.ns]using hkg) hws hw hL k0 k7 k11)) many env [] _ [] [] [] [] [] (by simp) (Qct.zero hinv) (KGh.zero hgm.un) (by cases ch<;>rfl) (by simp) (Cl.nil _) g0 g1 g2 g7 g8 g9 g11 g12
   refine⟨rfl,?_⟩;by_cases hx:0<=x0
   . rw[Wb hx];refine⟨rfl,LI.tell (Qbn.own0 (j:=A.length+(B.length+8)) (p:=3) (o:=⟨[i64 2,i64 x0,i64 info,.val (.slice none 0 0),.val (.slice none 0 0),.val (.slice none 0 0)],59,0,true⟩) ?_ rfl rfl 3 1) (LI.tell (Qbn.nil 3) (LI.cong (H':=c.hp A (B++g::⟨[i64 x0,i64 x1,i64 x2],85,0,true⟩::QW A B false x0 info [] []::QH []::QH []::[]) { s2 with pend:=s2.pend+many }) ?_ (hloop false (by simpa using hx) _ _ (λenv H h=>h) ?_ ?_ ?_ ?_ ?_ ?_ ?_ ?_)))⟩
     . simp only[QbL,Qg2,VS,QfX,Yo]
     . simp[Mc.hp,Mc.M,QW,QH,Go.Ab.set_app,Qha];exact⟨rfl,rfl,rfl,rfl,rfl⟩
     all_goals simp[h0,h1,h2,h7,h8,h9]
   . rw[Wa hx];refine LI.tell (Qbn.own0 (j:=A.length+(B.length+8)) (p:=3) (o:=⟨[i64 1,i64 0,i64 0,.val (.slice none 0 0),.val (.slice none 0 0),.val (.slice none 0 0)],59,0,true⟩) ?_ rfl rfl 3 1) (LI.tell (Qbn.own0 (j:=A.length+(B.length+8)) (p:=4) (o:=⟨[i64 1,i64 0,i64 0,.own (A.length+(B.length+9)) 0 0 1 0,.val (.slice none 0 0),.val (.slice none 0 0)],59,0,true⟩) ?_ rfl rfl 3 1)
      (LI.cong (H':=c.hp A (B++g::⟨[i64 x0,i64 x1,i64 x2],85,0,true⟩::QW A B true x0 info [] []::QH []::QH []::[]) { s2 with pend:=s2.pend+many }) ?_ (hloop true (by simpa using hx) _ _ (λenv H h=>h) ?_ ?_ ?_ ?_ ?_ ?_ ?_ ?_)))
     . simp only[QbL,Qg2,VS,QfX,Yo]
     . simp only[QbL,Go.Ab.set_app,Qha,Qg2,Zs,VS,Qk4,List.set_cons_zero,VF,V0,QfX,Yo];simp
     . simp[Mc.hp,Mc.M,QW,QH,Go.Ab.set_app,Qha];exact⟨rfl,rfl,rfl,rfl,rfl⟩
     all_goals simp[h0,h1,h2,h7,h8,h9]
end
section
variable {A B:Wu} {c:Mc} {s:Ms} {level:Nat} {seen:List (List Int)}
theorem Unq.snoc {vs:List Vw} {p l:Int} {sn:List Int} {i:Int} (h:Unq vs) (hn:∀ v∈vs,¬ (v.pl=p/\v.lv=l/\v.sn=sn)):Unq (vs++[⟨p,l,sn,i⟩]):=by
 intro a b u v ha hb h1 h2 h3;have hlast:∀ (k:Nat) (w:Vw),¬ k<vs.length->(vs++[(⟨p,l,sn,i⟩:Vw)])[k]? = some w->k=vs.length/\w=⟨p,l,sn,i⟩:=λk w hk hw=>by
  rw[Vf (by omega)]at hw;have hlt:=Qb hw;have e:k-vs.length=0:=by simp at hlt; omega
  rw[e]at hw;exact⟨by omega,by simpa using hw.symm⟩
 by_cases ka:a<vs.length
 . rw[Vd ka]at ha;by_cases kb:b<vs.length
   . rw[Vd kb]at hb;exact h a b u v ha hb h1 h2 h3
   . obtain⟨_,rfl⟩:=hlast b v kb hb;exact absurd ⟨h1,h2,h3⟩ (hn u (Vn ha))
 . obtain⟨ea,rfl⟩:=hlast a u ka ha;by_cases kb:b<vs.length
   . rw[Vd kb]at hb;exact absurd ⟨h1.symm,h2.symm,h3.symm⟩ (hn v (Vn hb))
   . obtain⟨eb,_⟩:=hlast b v kb hb;omega
def gb:AO:=⟨[i64 0,i64 0,i64 0,.val (.slice none 0 0),.val (.slice none 0 0),.val (.slice none 0 0)],59,0,true⟩
def Ms.push (s:Ms):Ms:={ s with ns:=s.ns++[phN],vn:=s.vn+1,pend:=s.pend-1 }
def m60:IC:=.seq (IC.nth 4 i35) (.seq (IC.nth 5 i35) (.seq (IC.nth 6 i35) (.seq (IC.nth 7 i35) t60)))
theorem h60':i35=.seq (IC.nth 0 i35) (.seq (IC.nth 1 i35) (.seq (IC.nth 2 i35) (.seq (IC.nth 3 i35) m60))):=rfl
set_option maxRecDepth 10000 in
theorem QtQ {env:Env} {N:Nat} (hc:c.Good) (hle:level<=c.lv.length) (hb:level<c.lv.length->Qd3 c (level+1)) (hi:Qb9 c s level) (hus:Unq s.vs) (hp1:1<=s.pend) (hcl:closed (c.hp A B s)) (hs:(seen.length:Int)=c.pl) (hsl:∀ l∈seen,l.length<=level)
 (h0:env.get 0=.ptr (.own (A.length+1) 0 0 0 0) 0) (h1:env.get 1=i64 level) (h2:env.get 2=Qa9 seen) (h7:env.get 7=i64 s.ns.length) :
 X Try.prog N Qh m60 env (c.hp A (B++[gb]) s.push) (FinP (A.length+(B.length+6)) r35 (Qez c A B s level seen)):=by
 have hcm:=hc.m;have hml:=hi.ml;have hcp:=hc.p2;have hil:=hi.il;have hvl:=hi.vl;have hlv:=hc.lv;have hend:∀ a:Int,0<=a->OkP Try.prog 59 [.ptr (.own (A.length+1) 0 0 0 0) 0,i64 s.ns.length] (c.hp A (B++[gb]) { s.push with at':=a }) (Qhr c A (B++[gb]) { s.push with at':=a } s.ns.length):=λa ha =>
  ok59 (A:=A) (B:=B++[gb]) (c:=c) (s:={ s.push with at':=a }) (k:=s.ns.length) hc.l ha hc.p1 hc.p2 (by simp[Ms.push]) (by simp[Ms.push]; omega)
 have hfin:∀ (a:Int),0<=a->∀ o G',Qhr c A (B++[gb]) { s.push with at':=a } s.ns.length o G'->o=.ret (.tup [])/\Qbf (c.hp A B s).length (Qez c A B s level seen) (i64 s.ns.length) G':=by
  rintro a ha o G' ⟨rfl,ps,a',p1,p2,p3,rfl⟩;exact⟨rfl,_,_,⟨rfl,_,_,_,_,QoQ (s3:={ s.push with at':=a }) hc hi hp1 rfl rfl rfl rfl p1 p2 p3,QlO rfl rfl hus,rfl⟩,QhT hcl rfl (Qcd _ _ _ _ _)⟩
 rw[Qcj]at hfin;by_cases hlev:level=c.lv.length
 . simp -implicitDefEqProofs[m60,IC.nth,i35,r35,Mc.hp,Mc.M,h0,h1,h2,h7,hlev];refine Q6 (hend s.at' hi.a0) ?_;intro o G' hq;obtain⟨rfl,hf⟩:=hfin _ hi.a0 _ _ hq;simp -implicitDefEqProofs[h0,h1,h2,h7];rw[hlev]at hf;exact hf
 . have hlt:level<c.lv.length:=by omega
   have hd:=Qiq Qif hlt;have hd1:=QeQ Qif hlt;have hd2:=Qmk Qif hlt;rw[lcN,V0,V0,V0,Ye]at hd;have hlr:=hc.lvr _ (Vg hlt);simp -implicitDefEqProofs[m60,IC.nth,i35,r35,Mc.hp,Mc.M,h0,h1,h2,h7,show ¬ ((level:Int)=c.lv.length)by omega];refine Q6 (OkP.strip (by show OkP Try.prog 34 [.ptr (.own A.length 0 0 0 0) 0,i64 8] _ _; exact Qel (A:=A) (B:=B++[gb]) (c:=c) (s:=s.push) (n:=8) hc.l hi.a0 (by omega))) ?_;rintro o G' ⟨v,a,rfl,ha,hv1,hv2,rfl⟩;by_cases hv:v=1
   . simp -implicitDefEqProofs[h0,h1,h2,h7,Mc.hp,Mc.M,hv,show ¬ ((level:Int)=c.lv.length)by omega];refine Q6 (hend a ha) ?_;intro o G' hq;obtain⟨rfl,hf⟩:=hfin _ ha _ _ hq;simp -implicitDefEqProofs[h0,h1,h2,h7];exact hf
   . generalize hx:c.lv[level]=x at hd hlr;obtain⟨x0,x1,x2⟩:=x;simp only at hd hlr;have htail:=λ(s2:Ms) (info many:Nat) (env:Env) (hm:Qd7 c s s2 level x0 info many) (hgm:QjB c s2 level x0 info seen) (k0:env.get 0=_) (k1:env.get 1=_) (k2:env.get 2=_) (k7:env.get 7=_) (k8:env.get 8=_) (k9:env.get 9=_) (k10:env.get 10=_) =>
      QqP (A:=A) (B:=B) (c:=c) (s:=s) (s2:=s2) (seen:=seen) (env:=env) (g:=gb) (N:=N) (x1:=x1) (x2:=x2) hc hi hp1 hm hus hgm (hb hlt) hcl (Cl.cons rfl (Cl.nil _)) hlt hs hsl k0 k1 k2 k7 k8 k9 k10
     have hlvF:lvF c level=x0:=by simp[lvF,hlt,hx]
     by_cases hx0:0<=x0
     . have hxl:x0.toNat<seen.length:=by omega
       simp -implicitDefEqProofs[h0,h1,h2,h7,Mc.hp,Mc.M,Mc.L,hv,hd,hd1,hd2,hx0,hxl,Qa9,sl,show x0<(seen.length:Int)by omega,show ¬ ((level:Int)=c.lv.length)by omega,Yf,show 1<=seen.length-x0.toNat by omega];refine⟨hlt,?_⟩;have h74:=ok60 (A:=A) (B:=B++[gb,⟨[i64 x0,i64 x1,i64 x2],85,0,true⟩]) (c:=c) (s:={ s.push with at':=a }) (pl:=x0) (lv:=level) (sn:=seen[x0.toNat]) hc.l ha (by simp[Ms.push]; omega) (by simp[Ms.push]; omega) (λv h=>hi.vsn v h);refine Q6 (by simpa[Mc.hp,Mc.M,Mc.L,sl]using h74) ?_;rintro o G' (⟨i,hil',e1,e2,e3,rfl,rfl⟩|⟨k,a',hno,hk1,hk2,ha',rfl,rfl⟩)
       . have hil2:i<s.vs.length:=hil';have hii:i<s.is.length:=by omega
         obtain⟨v1,v2⟩:=hi.vi i hil2;have q1:=Qhu Qeo (t:=1) hii (by omega);simp only[icN,Yo,VS]at q1;have q2:=QeQ Qeo hii;have hr:=hi.isr _ (Vg hii);obtain⟨many,hmany⟩:∃ m:Nat,s.is[i].2=m:=⟨s.is[i].2.toNat,by omega⟩;rw[hmany]at q1;simp -implicitDefEqProofs[h0,h1,h2,h7,Mc.hp,Mc.M,Mc.I,Ms.push,v1,hii,q1,q2];refine⟨by omega,?_⟩;have hq:s.is[i]? = some (x0,(many:Int)):=by
          rw[Vb hii,<- hmany];have:s.is[i].1=x0:=by rw[<-v2]; exact e1
          rw[<-this]
         have:=λenv k0 k1 k2 k7 k8 k9 k10=>htail { s.push with at':=a } i many env ⟨rfl,rfl,ha,by omega,.inr ⟨hx0,hq,.inl ⟨rfl,rfl,hil2,e2⟩⟩⟩ ⟨hus,hlvF,λ_=>⟨_,_,Vb hxl,Vb hil2,e1,e2,e3⟩⟩ k0 k1 k2 k7 k8 k9 k10;simp only[Mc.hp,Mc.M,Mc.I,Ms.push,Vy,YP]at this ⊢;refine this _ ?_ ?_ ?_ ?_ ?_ ?_ ?_<;>simp[h0,h1,h2,h7]
       . obtain⟨many,hmany⟩:∃ m:Nat,k=m:=⟨k.toNat,by omega⟩;subst hmany;have hii:s.is.length<(s.is++[(x0,(many:Int))]).length:=by simp
         have q1:=Qhu Qeo (l:=s.is++[(x0,(many:Int))]) (t:=1) hii (by omega);rw[Za (by omega)]at q1;simp only[icN,Yo,VS,ZP,List.getElem_cons_zero]at q1;have q2:=QeQ Qeo hii;simp -implicitDefEqProofs[h0,h1,h2,h7,Mc.hp,Mc.M,Mc.I,Ms.push,Ms.addV,q1,q2];refine⟨by omega,by omega,?_⟩;have:=λenv k0 k1 k2 k7 k8 k9 k10=>htail ({ s.push with at':=a }.addV x0 level seen[x0.toNat] many a') s.is.length many env ⟨rfl,rfl,ha',by omega,.inr ⟨hx0,by simp[Ms.addV,Ms.push],.inr ⟨by omega,rfl,rfl,_,(by have:=hsl _ (Vg hxl); omega),rfl⟩⟩⟩ ⟨hus.snoc hno,hlvF,λ_=>⟨_,⟨x0,level,seen[x0.toNat],s.is.length⟩,Vb hxl,by simp[Ms.addV,Ms.push,hvl],rfl,rfl,rfl⟩⟩ k0 k1 k2 k7 k8 k9 k10;simp only[Mc.hp,Mc.M,Mc.I,Ms.push,Ms.addV,Vy,YP]at this ⊢;refine this _ ?_ ?_ ?_ ?_ ?_ ?_ ?_<;>simp[h0,h1,h2,h7]
     . simp -implicitDefEqProofs[h0,h1,h2,h7,Mc.hp,Mc.M,Mc.L,hv,hd,hd1,hd2,hx0,show ¬ ((level:Int)=c.lv.length)by omega];refine⟨hlt,?_⟩;obtain⟨many,hmany⟩:∃ m:Nat,x1=m:=⟨x1.toNat,by omega⟩;refine htail { s.push with at':=a } 0 many _ ⟨rfl,rfl,ha,by omega,.inl ⟨by omega,rfl,rfl,rfl⟩⟩ ⟨hus,hlvF,λh=>absurd h hx0⟩ ?_ ?_ ?_ ?_ ?_ ?_ ?_<;>simp[h0,h1,h2,h7,hmany]
set_option maxRecDepth 10000 in
theorem QmG (hc:c.Good) (hle:level<=c.lv.length) (hb:level<c.lv.length->Qd3 c (level+1)):Qd3 c level:=by
 intro A B s seen hi hus hp1 hs hsl;refine QaU hm' Try.func35 c35 (by simp) λhcl => ?_;have hcm:=hc.m;have hml:=hi.ml;have z0:=QcM Nd.lenN s.ns;have w1:IntKind.i64.wrap (s.pend-1)=s.pend-1:=Qi (by omega) (by omega);have ePh:rws Nd.cN (s.ns++[phN])=rws Nd.cN s.ns++[i64 0,i64 0,i64 0,.val (.slice none 0 0),.val (.slice none 0 0),.val (.slice none 0 0)]:=by rw[Qeq]; rfl
 rw[h60'];simp -implicitDefEqProofs[IC.nth,i35,Mc.hp,Mc.M,Mc.N,w1,z0];refine⟨rfl,by omega,by omega,?_⟩;have:=λenv h0 h1 h2 h7=>QtQ (env:=env) (N:=Try.f35.ntmps) hc hle hb hi hus hp1 hcl hs hsl h0 h1 h2 h7;simp only[Mc.hp,Mc.D,Mc.M,Mc.N,Mc.V,Mc.I,Ms.push,gb,ePh,VF,Vy,YP]at this ⊢;refine this _ ?_ ?_ ?_ ?_<;>simp
end
theorem QlP {c:Mc} (hc:c.Good):∀ (f level:Nat),level+f=c.lv.length->Qd3 c level
 |0,level,h=>QmG hc (by omega) λh'=>absurd h' (by omega)
 |f+1,level,h=>QmG hc (by omega) λ_=>QlP hc f (level+1) (by omega)
theorem Qlp:∀ l:List Nd,nds l=rws Nd.cells l
 |[]=>rfl
 |x::r=>by simp only[nds,rws,Qlp r]
theorem QmX:∀ l:List (Int×Int),Qy l=rws icN l
 |[]=>rfl
 |x::r=>by simp only[Qy,rws,QmX r]; rfl
theorem Wlk.pos {b h:Nat} {sub:List Nd} (hw:Wlk b h sub):1<=sub.length:=by
 rcases sub with _|⟨x,r⟩
 . obtain⟨m,h1,_⟩:=hw (List.replicate b phN) [] 0 0 0 (by simp) (by simp);simp[Qcg]at h1
 . simp
structure QeS (pl0 most:Int) (g:Gm):Prop where
 pl:g.pl=pl0
 n1:1<=g.ns.length
 ml:(g.ns.length:Int)<=most
 il:g.is.length<=g.ns.length
 wlk:Wlk 0 10 g.ns
 good:∀ x∈g.ns,x.good pl0 g.is
 rg:rg g.ns 0=some g.is.length
 isr:∀ q∈g.is,0<=q.1/\q.1<pl0/\1<=q.2/\q.2<=3
 rcl:∃ lvs V gs,Rcl g lvs V gs
theorem QeS.form {pl most:Int} {g:Gm} (h:QeS pl most g) (p1:1<=pl) (p4:pl<=4) (hm:most<=200):g.formE=0:=by
 have:=h.ml; have:=h.il; have:=h.pl; have:=h.n1;exact QtJ (by omega) (by omega) h.n1 (by omega) (by omega) h.wlk (by omega) (by rw[h.pl]; exact h.good) h.rg
theorem Qo2 {c:Mc} {s:Ms} {pl:Int} {np:Nat} (hn:pl=np) (h:GhP c 0 0 (List.replicate np []) s.ns s.vs):∃ lvs V gs,Rcl ⟨pl,s.ns,s.is⟩ lvs V gs:=by
 obtain⟨u,gs,h1,h2,h3,h4⟩:=h;refine⟨lvF c,λi=>s.vs[i]?.map λv=>(v.pl,v.lv,v.sn),gs,h1,?_,λj x y hx hy k d hd => ?_,λj x y hx hy => ?_,λi j w hi hj => ?_⟩
 . rw[h2]; simp[hn]
 . obtain⟨m,z,e1,e2,e3⟩:=h3 j x y hx hy k d hd;exact⟨m,z,by rw[e1]; simp,e2,e3⟩
 . obtain⟨f1,f2⟩:=h4 j x y hx hy;refine⟨λhk => ?_,f2⟩;obtain⟨a1,a2,a3,t,v,b1,b2,b3,b4,b5⟩:=f1 hk;exact⟨a1,a2,a3,t,b1,by simp[b2,b3,b4,b5]⟩
 . cases ha:s.vs[i]? with
   |none=>simp[ha]at hi
   |some p =>
    cases hb:s.vs[j]? with
    |none=>simp[hb]at hj
    |some q =>
     simp only[ha,hb,VP,Option.some.injEq]at hi hj;have e:=hi.trans hj.symm;simp only[Prod.mk.injEq]at e;exact u i j p q ha hb e.1 e.2.1 e.2.2
def Qk0 (n:Nat) (pl:Int) (s:Ms):SV:=.agg [i64 pl,.own (n+5) 0 s.ns.length 6 s.vn,.own (n+6) 0 s.is.length 2 s.vi]
section
variable {H:Wu}
set_option maxRecDepth 10000 in
theorem Qs7 {l:List Int} {pl most:Int} {zero:Bool} {m0:Nat} {A:Wu} {N:Nat} {K:Wt} (hl:l.length<4611686018427387904) (p1:1<=pl) (p2:pl<=1000) (hm0:m0<=50)
 (hexit:∀ env B lv a,lv.length<=m0->(∀ q∈lv,-1<=q.1/\q.1<pl/\2<=q.2.1/\q.2.1<=3)->0<=a->env.get 1=i64 pl->env.get 8=.ptr (.own (A.length-1) 0 0 0 0) 0->env.get 9=.ptr (.own (A.length+1) 0 0 0 0) 0 ->
  K (.exit 0) env ((⟨l,lv,lv.length,most,zero,pl⟩:Mc).hp A B ⟨a,1,0,0,0,[],[],[]⟩)) :
 ∀ (n:Nat) (env:Env) (B:Wu) (lv:List (Int×Int×Int)) (a:Int),lv.length+n=m0->(∀ q∈lv,-1<=q.1/\q.1<pl/\2<=q.2.1/\q.2.1<=3)->0<=a->env.get 1=i64 pl->env.get 8=.ptr (.own (A.length-1) 0 0 0 0) 0->env.get 9=.ptr (.own (A.length+1) 0 0 0 0) 0->env.get 10=i64 n ->
  LI Try.prog N Qh QgQ env ((⟨l,lv,lv.length,most,zero,pl⟩:Mc).hp A B ⟨a,1,0,0,0,[],[],[]⟩) K:=by
 intro n
 induction n with
 |zero =>
  intro env B lv a hn hlv ha h1 h8 h9 h10;refine Qc hm QgQ.eq_1 ?_;simp -implicitDefEqProofs[h1,h8,h9,h10];refine hexit _ B lv a (by omega) hlv ha ?_ ?_ ?_<;>simp[h1,h8,h9]
 |succ n ih =>
  intro env B lv a hn hlv ha h1 h8 h9 h10;refine Qc hm QgQ.eq_1 ?_;have w0:IntKind.i64.wrap (pl+1)=pl+1:=Qi (by omega) (by omega);have w1:IntKind.i64.wrap (n:Int)=n:=QcJ (by omega);have z0:=QcM Qif lv;simp -implicitDefEqProofs[h1,h8,h9,h10,Mc.hp,Mc.M,w0,show(0:Int)<n+1 by omega];refine Q6 (Qel (A:=A) (B:=B) (c:=⟨l,lv,lv.length,most,zero,pl⟩) (n:=pl+1) (s:=⟨a,1,0,0,0,[],[],[]⟩) hl ha (by omega)) ?_;rintro o G' ⟨v,a1,rfl,ha1,hv1,hv2,rfl⟩;have w2:IntKind.i64.wrap (v-1)=v-1:=Qi (by omega) (by omega);simp -implicitDefEqProofs[h1,h8,h9,h10,Mc.hp,Mc.M,w0,w2];refine Q6 (Qel (A:=A) (B:=B) (c:=⟨l,lv,lv.length,most,zero,pl⟩) (n:=2) (s:=⟨a1,1,0,0,0,[],[],[]⟩) hl ha1 (by omega)) ?_;rintro o G' ⟨u,a2,rfl,ha2,hu1,hu2,rfl⟩;have w3:IntKind.i64.wrap (2+u)=2+u:=Qi (by omega) (by omega);simp -implicitDefEqProofs[h1,h8,h9,h10,Mc.hp,Mc.M,w0,w2,w3];refine Q6 (Qel (A:=A) (B:=B) (c:=⟨l,lv,lv.length,most,zero,pl⟩) (n:=16) (s:=⟨a2,1,0,0,0,[],[],[]⟩) hl ha2 (by omega)) ?_;rintro o G' ⟨t,a3,rfl,ha3,ht1,ht2,rfl⟩;simp -implicitDefEqProofs[h1,h8,h9,h10,Mc.hp,Mc.M,Mc.L,w0,w1,w2,w3,z0];refine⟨by omega,by omega,?_⟩;refine LI.cong (H':=(⟨l,lv++[(v-1,2+u,t)],(lv++[(v-1,2+u,t)]).length,most,zero,pl⟩:Mc).hp A (B++[⟨[i64 (v-1),i64 (2+u),i64 t],85,0,true⟩]) ⟨a3,1,0,0,0,[],[],[]⟩) (by simp[Mc.hp,Mc.D,Mc.L,Mc.M,Mc.V,Mc.N,Mc.I,Qeq,rws,lcN]) ?_;refine ih _ _ _ _ (by simp; omega) ?_ ha3 ?_ ?_ ?_ ?_
  . intro q hq;rcases Vj.1 hq with h|h
    . exact hlv q h
    . simp at h; subst h; simp only; omega
  all_goals simp[h1,h8,h9,w1]
set_option maxRecDepth 10000 in
theorem Qo1 {l:List Int} {pl most:Int} {zero:Bool} {Pt:Out->Wu->Prop} (hl:l.length<4611686018427387904) (p1:1<=pl) (p2:pl<=1000) (m1:1<=most) (m2:most<=2000)
 (hfin:closed H->∀ (c:Mc) (s:Ms) (B:Wu) (o:AO),QeS pl most ⟨pl,s.ns,s.is⟩->Qbf H.length Pt (Qk0 H.length pl s) (c.hp (H++[o]) B s)) :
 OkP Try.prog 11 [.slc (Qa l) l.length,i64 pl,i64 most,bl zero] H Pt:=by
 refine QaU hm Try.func11 c11 (by simp) λhcl => ?_;simp -implicitDefEqProofs[i11,r11];have h59:=ok34 (G:=H++[⟨[i64 0,.val (.slice none 0 0),.val (.slice none 0 0)],25,0,true⟩,⟨[.slc (Qa l) l.length,i64 0],78,0,true⟩,⟨[.ptr (.own (H.length+1) 0 0 0 0) 0,.val (.slice none 0 0),.val (.slice none 0 0),i64 most,i64 1,bl zero,bl false,i64 pl,.val (.slice none 0 0),.val (.slice none 0 0)],82,0,true⟩]) (l:=l) (at':=0) (n:=5) (jd:=H.length+1) (by simp[QbL]) hl (by omega) (by omega);refine⟨rfl,?_⟩;refine Q6 h59 ?_;rintro o G' ⟨v,a,rfl,ha,hv1,hv2,rfl⟩;have w1:IntKind.i64.wrap (1+v)=1+v:=Qi (by omega) (by omega);simp -implicitDefEqProofs[w1];obtain⟨m0,hm0⟩:∃ m:Nat,1+v=m:=⟨(1+v).toNat,by omega⟩;rw[hm0];have z1:H.length+1-1=H.length:=by omega
 refine LI.tell (Qbn.own0 (j:=H.length+2) (p:=1) (o:=⟨[.ptr (.own (H.length+1) 0 0 0 0) 0,.val (.slice none 0 0),.val (.slice none 0 0),i64 most,i64 1,bl zero,bl false,i64 pl,.val (.slice none 0 0),.val (.slice none 0 0)],82,0,true⟩) ?_ rfl rfl 85 3)
  (LI.tell (Qbn.own0 (j:=H.length+2) (p:=2) (o:=⟨[.ptr (.own (H.length+1) 0 0 0 0) 0,.own (H.length+3) 0 0 3 0,.val (.slice none 0 0),i64 most,i64 1,bl zero,bl false,i64 pl,.val (.slice none 0 0),.val (.slice none 0 0)],82,0,true⟩) ?_ rfl rfl 122 4)
  (LI.tell (Qbn.own0 (j:=H.length+2) (p:=8) (o:=⟨[.ptr (.own (H.length+1) 0 0 0 0) 0,.own (H.length+3) 0 0 3 0,.own (H.length+4) 0 0 4 0,i64 most,i64 1,bl zero,bl false,i64 pl,.val (.slice none 0 0),.val (.slice none 0 0)],82,0,true⟩) ?_ rfl rfl 59 6)
  (LI.tell (Qbn.own0 (j:=H.length+2) (p:=9) (o:=⟨[.ptr (.own (H.length+1) 0 0 0 0) 0,.own (H.length+3) 0 0 3 0,.own (H.length+4) 0 0 4 0,i64 most,i64 1,bl zero,bl false,i64 pl,.own (H.length+5) 0 0 6 0,.val (.slice none 0 0)],82,0,true⟩) ?_ rfl rfl 45 2)
  (LI.cong (H':=(⟨l,[],0,most,zero,pl⟩:Mc).hp (H++[⟨[i64 0,.val (.slice none 0 0),.val (.slice none 0 0)],25,0,true⟩]) [] ⟨a,1,0,0,0,[],[],[]⟩) ?_
   (Qs7 (A:=H++[⟨[i64 0,.val (.slice none 0 0),.val (.slice none 0 0)],25,0,true⟩]) (m0:=m0) hl p1 p2 (by omega) (λenv B lv a hlv hq ha k1 k8 k9 => ?_) m0 _ [] [] a (by simp) (by simp) ha ?_ ?_ ?_ ?_)))))
 . simp only[QbL,Go.Ab.set_app,Zs,List.set_cons_zero]; rfl
 . simp only[QbL,Go.Ab.set_app,Zs,List.set_cons_zero]; simp[QbL]
 . simp[QbL,Go.Ab.set_app]
 . simp[QbL,Go.Ab.set_app]
 . simp[Mc.hp,Mc.D,Mc.L,Mc.M,Mc.V,Mc.N,Mc.I,rws,Go.Ab.set_app]
 . simp at k8 k9;have hc:(⟨l,lv,lv.length,most,zero,pl⟩:Mc).Good:=⟨hl,p1,p2,m2,by simp only; omega,hq⟩;have hi:Qb9 ⟨l,lv,lv.length,most,zero,pl⟩ ⟨a,1,0,0,0,[],[],[]⟩ 0:=⟨ha,rfl,λj h=>by simp at h,by simp,λj h=>by simp at h,by simp,by simp,by simp,by simp only[Ys]; omega⟩;obtain⟨np,hnp⟩:∃ np:Nat,pl=np:=⟨pl.toNat,by omega⟩;have hb:=QlP hc lv.length 0 (by simp) (H++[⟨[i64 0,.val (.slice none 0 0),.val (.slice none 0 0)],25,0,true⟩]) (B++[⟨[],36,1,false⟩]) ⟨a,1,0,0,0,[],[],[]⟩ (List.replicate np []) hi (λi j u v h=>by simp at h) (by simp) (by simp[hnp]) (by intro x hx; simp[ZB]at hx; simp[hx.2]);simp -implicitDefEqProofs[k1,k8,k9,Mc.hp,Mc.M];refine⟨by omega,by omega,by omega,?_⟩;refine Q6 (OkP.give (H.length+(B.length+7)) 1 (o:=⟨List.replicate np nl,36,0,true⟩) ?_ rfl (OkP.le ?_ (OkP.cast rfl ?_ hb))) ?_
   . rw[QbL];simp[QfX,QbL,hnp]
   . simp[hnp,Qa9,Yf];refine leL.cons (SV.le.refl _) (leL.cons (SV.le.refl _) (leL.cons (Qi9 ⟨by simp,λj x y h1 h2 => ?_⟩ _) leL.nil));simp[ZJ]at h1 h2;obtain⟨_,rfl⟩:=h1;obtain⟨_,rfl⟩:=h2;exact Qdv
   . simp[Mc.hp,Mc.M,Go.Ab.set_app,Qk4,AO.dead,hnp]
   rintro o G' ⟨rfl,s',sub,isN,vsN,hp,hgh,rfl⟩;simp -implicitDefEqProofs[k1,k8,k9,Mc.hp,Mc.M];have e1:s'.ns=sub:=hp.ns;have hml:=hp.inv.ml;have hpe:=hp.pend;simp only at hml hpe;have:=hfin hcl ⟨l,lv,lv.length,most,zero,pl⟩ s' (B++[⟨[],36,1,false⟩]) ⟨[i64 pl,.own (H.length+1+4) 0 s'.ns.length 6 s'.vn,.own (H.length+1+5) 0 s'.is.length 2 s'.vi],25,0,true⟩
    ⟨rfl,by show 1<=s'.ns.length; rw[e1]; exact hp.wlk.pos,by show(s'.ns.length:Int)<=most; omega,hp.inv.il,by show Wlk 0 10 s'.ns; rw[e1]; exact hp.wlk.mono (by simp only; omega),by show ∀ x∈s'.ns,x.good pl s'.is; rw[e1]; exact hp.good,by show rg s'.ns 0=some s'.is.length; rw[e1]; exact hp.rg,hp.inv.isr,Qo2 hnp (by rw[e1]; exact hgh)⟩
   simpa[Qk0,Mc.hp,Mc.M]using this
 all_goals simp
theorem Qjp (l:List Int):SV.le (slN l) (sl l):=by
 unfold slN;split
 . rename_i h; subst h; exact Qdv
 . exact SV.le.refl _
theorem QsG (x:Nd):leL x.cN x.cells:=leL.cons (SV.le.refl _) (leL.cons (SV.le.refl _) (leL.cons (SV.le.refl _) (leL.cons (Qjp _) (leL.cons (Qjp _) (leL.cons (Qjp _) leL.nil)))))
theorem Qsw (g:Gm):SV.le (.agg [i64 g.pl,.slc (rws Nd.cN g.ns) g.ns.length,.slc (rws icN g.is) g.is.length]) (.agg g.cells):=by
 unfold Gm.cells;rw[Qlp,QmX];exact Qfs (leL.cons (SV.le.refl _) (leL.cons (Qi9 (leL.rws QsG _) _) (leL.cons (SV.le.refl _) leL.nil)))
theorem Qtp (n:Nat) (x:Int×Int):SV.underL n (icN x)=true:=by simp[icN,SV.underL,SV.under]
theorem ok11 {l:List Int} {pl most:Int} {zero:Bool} (hl:l.length<4611686018427387904) (p1:1<=pl) (p2:pl<=1000) (m1:1<=most) (m2:most<=2000) :
 OkP Try.prog 11 [.slc (Qa l) l.length,i64 pl,i64 most,bl zero] H λo H'=>∃ g,QeS pl most g/\o=.ret (.agg g.cells)/\H'=H:=by
 refine Qo1 hl p1 p2 m1 m2 λhcl c s B o hm=>⟨_,H,⟨_,hm,rfl,rfl⟩,?_⟩;refine Cv.le ?_ (Qsw ⟨pl,s.ns,s.is⟩);have z1:=QcM Nd.lenN s.ns;have z2:=QcM Qeo s.is;have e:c.hp (H++[o]) B s=H++(o::c.D s::c.M (H++[o]).length s::c.L::Mc.V s::Mc.N s::Mc.I s::B):=by simp[Mc.hp]
 rw[e];refine Ql 4 hcl rfl ?_;simp[Qk0,Mc.N,Mc.I,QY,z1,z2,VE,Qdu,QcK (QiY _),QcK (Qtp _)]
end
end Go.Proofs.Ytogjmpkehjfecaa.Rc
namespace Go.Proofs.Ytogjmpkehjfecaa.Rc
open Go.Ab Go.Ab.Shr
section
variable {H:Wu}
theorem QkU (p i:Int) {k n v:Nat} (hk:k<H.length):Ok Try.prog 46 [i64 p,i64 i,.own k 0 n 1 v] H (.ret (.agg [i64 2,i64 p,i64 i,.own k 0 n 1 v,nl,nl])) H:=by
 refine Qq hm Try.func46 c46 (by simp[SV.under,hk]) λhcl => ?_;simp -implicitDefEqProofs[i46,r46];exact⟨rfl,Ql 2 hcl rfl (Qap (by simp[SV.under,hk]))⟩
theorem Qe2 (p:Int) (hp : -1000<=p/\p<=1000):Ok Try.prog 47 [i64 p] H (.ret (.agg [i64 3,i64 0,i64 0,nl,nl,.slc (Qa [p,-p]) 2])) H:=by
 refine Qq hm Try.func47 c47 (by simp) λhcl => ?_;have w1:IntKind.i64.wrap (-p) = -p:=Qi (by omega) (by omega);simp -implicitDefEqProofs[i47,r47,w1];exact⟨rfl,Ql 3 hcl rfl (by simp[Qa])⟩
def exG:Gm:=⟨2,[⟨2,0,0,[1,2],[],[]⟩,⟨3,0,0,[],[],[1,-1]⟩,⟨2,1,1,[3,4],[],[]⟩,⟨3,0,0,[],[],[0,0]⟩,⟨2,0,2,[5,6,7],[],[]⟩,⟨3,0,0,[],[],[2,-2]⟩,⟨3,0,0,[],[],[-1,1]⟩,⟨3,0,0,[],[],[3,-3]⟩],[(0,2),(1,2),(0,3)]⟩
set_option maxRecDepth 10000 in
theorem Qj9:Ok Try.prog 25 [] H (.ret (.agg exG.cells)) H:=by
 refine Qq hm Try.func25 c25 (by simp) λhcl => ?_;have h47:=λH p hp=>Qe2 (H:=H) p hp;simp -implicitDefEqProofs[i25,r25];refine Qj (QkU 0 0 (by simp)) ?_;simp -implicitDefEqProofs;refine Qj (Qe2 1 (by omega)) ?_;simp -implicitDefEqProofs;refine Qj (QkU 1 1 (by simp)) ?_;simp -implicitDefEqProofs;refine Qj (Qe2 0 (by omega)) ?_;simp -implicitDefEqProofs;refine Qj (QkU 0 2 (by simp)) ?_;simp -implicitDefEqProofs;refine Qj (Qe2 2 (by omega)) ?_;simp -implicitDefEqProofs;refine Qj (Qe2 (-1) (by omega)) ?_;simp -implicitDefEqProofs;refine Qj (Qe2 3 (by omega)) ?_;simp -implicitDefEqProofs;refine⟨rfl,Cv.le (Ql 5 hcl rfl rfl) ?_⟩;have e1:(1+1:Nat)=2:=rfl;simp[Qa,exG,Gm.cells,nds,Nd.cells,Qy,sl];refine Qfs (leL.cons (SV.le.refl _) (leL.cons (Qi9 ?_ _) (leL.refl _)));repeat (first|exact leL.nil|refine leL.cons (SV.le.refl _) ?_|refine leL.cons Qdv ?_)
end
def Qdi (g:Gm):Tin×Int:=if g.prpE≠0 then(.zero,g.prpE)else(⟨0,0,(List.range g.is.length).map (Qad g),(List.range g.is.length).map (Qad g)⟩,0)
section
variable {H:Wu} {g:Gm}
set_option maxRecDepth 10000 in
theorem ok13:Ok Try.prog 13 [.agg g.cells] H (.ret (.tup [.agg (Qdi g).1.cells,i64 (Qdi g).2])) H:=by
 refine Qq hm Try.func13 c13 (by simp[Gm.cells,Qbe,Qbj]) λhcl => ?_;have h36:=λH=>ok36 (H:=H) (g:=g);simp only[Gm.cells]at h36;simp -implicitDefEqProofs[i13,r13,Gm.cells];refine Qj (h36 _) ?_;by_cases hp:g.prpE=0
 . have hW:Wg g:=Qi4 hp;have e:Qdi g=(⟨0,0,(List.range g.is.length).map (Qad g),(List.range g.is.length).map (Qad g)⟩,0):=by unfold Qdi; rw[Wa (by simpa using hp)]
   have h37:=λH=>Qjz (H:=H) hW;simp only[Gm.cells]at h37;simp -implicitDefEqProofs[hp];refine Qj (h37 _) ?_;simp -implicitDefEqProofs;refine Qj (h37 _) ?_;have hb:=Qep g g.is.length;have hbr:=Qhg g g.is.length;generalize Qax g g.is.length=M at *;simp -implicitDefEqProofs;rw[e];have hcv:=λ(L:Wu) (r:SV) (h:SV.fz H.length [] L 6 r=.tup [.agg (Tin.mk 0 0 ((List.range g.is.length).map (Qad g)) ((List.range g.is.length).map (Qad g))).cells,i64 0])=>Ql (n0:=H.length) (H:=H) (L:=L) 6 hcl rfl h;refine hcv _ _ ?_;have key:∀ (L:Wu) (a b:Nat) (qa qb:Nat->Nat),L[a]? = some ⟨QJ g.is.length qa g.acts 0,36,0,true⟩->L[b]? = some ⟨QJ g.is.length qb g.acts 0,36,0,true⟩->(∀ i,i<g.is.length->H.length<=qa i/\L[qa i-H.length]? = some (Qaf 0 (Qt (g.acts i))))->(∀ i,i<g.is.length->H.length<=qb i/\L[qb i-H.length]? = some (Qaf 0 (Qt (g.acts i)))) ->
    SV.fz H.length [] L 6 (.tup [.agg [i64 0,i64 0,.own (H.length+a) 0 g.is.length 1 0,.own (H.length+b) 0 g.is.length 1 0],i64 0])=.tup [.agg (Tin.mk 0 0 ((List.range g.is.length).map (Qad g)) ((List.range g.is.length).map (Qad g))).cells,i64 0]:=by
    intro L a b qa qb ha hb hqa hqb;have at':∀ k,H.length<=k->(H++L)[k]? = L[k-H.length]? := λk hk=>by rw[Vf hk]
    have fS:=Qgy (H:=H) (G:=H++L) (p:=H.length+a) (A:=Qad g) (by omega) (by rw[at' _ (by omega),show H.length+a-H.length=a by omega]; exact ha) (λi hi=>⟨(hqa i hi).1,by rw[at' _ (hqa i hi).1]; exact(hqa i hi).2,by simp[Qad,Qt]⟩) 1;have fP:=Qgy (H:=H) (G:=H++L) (p:=H.length+b) (A:=Qad g) (by omega) (by rw[at' _ (by omega),show H.length+b-H.length=b by omega]; exact hb) (λi hi=>⟨(hqb i hi).1,by rw[at' _ (hqb i hi).1]; exact(hqb i hi).2,by simp[Qad,Qt]⟩) 1;rw[List.drop_left]at fS fP;simp only[QhF,Vs,V3,QkZ,Qcd,Nat.reduceAdd,fS,fP];simp[Tin.cells]
   refine key _ 3 (M.length+5) (pB (H.length+2)) (pB (H.length+(M.length+4))) rfl ?_ (λi hi=>⟨by unfold pB; omega,?_⟩) (λi hi=>⟨by unfold pB; omega,?_⟩)
   . rw[show M.length+5=(M.length+1)+4 by omega];simp only[VS];rw[Vf (by omega),show M.length+1-M.length=1 by omega]; rfl
   . rw[show pB (H.length+2) i-H.length=(2*i+1)+4 by unfold pB; omega];simp only[VS];rw[Vd (by omega)]; exact hbr i hi
   . rw[show pB (H.length+(M.length+4)) i-H.length=(M.length+(2*i+1+2))+4 by unfold pB; omega];simp only[VS];rw[Vf (by omega),show M.length+(2*i+1+2)-M.length=2*i+1+2 by omega];simp only[VS];exact hbr i hi
 . have e:Qdi g=(.zero,g.prpE):=by unfold Qdi; rw[Wb hp]
   rw[e];simp -implicitDefEqProofs[hp];exact⟨rfl,Qj1 hcl _ _⟩
end
structure Sml (g:Gm):Prop where
 w:Wg g
 prp:g.prpE=0
 n:g.ns.length<=60
theorem QeS.sml {pl most:Int} {g:Gm} (h:QeS pl most g) (p1:1<=pl) (p4:pl<=4) (hm:most<=60):Sml g:=by
 have hf:=h.form p1 p4 (by omega);have hW:=Qfk hf;obtain⟨lvs,V,gs,hr⟩:=h.rcl;have:=h.ml;refine⟨hW,hr.prp hW hf λx hx hk => ?_,by omega⟩;rcases h.good x hx with h1|⟨a1,a2,a3,a4,a5,a6,a7,a8,a9⟩|h1
 . omega
 . exact⟨_,a9⟩
 . omega
def T0 (g:Gm):Tin:=⟨0,0,(List.range g.is.length).map (Qad g),(List.range g.is.length).map (Qad g)⟩
def z0 (g:Gm):TS:=s0T g 0 0 (T0 g).A (T0 g).P
section
variable {g:Gm}
theorem QsW (h:Sml g):Qdi g=(T0 g,0):=by
 unfold Qdi;rw[Wa (by rw[h.prp]; simp)];rfl
theorem QtW {t:Tin} (hA:t.A.length=g.is.length) (hP:t.P.length=g.is.length):QQ g (s0T g t.rnd t.seed t.A t.P)=t:=by
 have e:∀ L:List (List Int),L.length=g.is.length->(List.range g.is.length).map (λi=>L.getD i [])=L:=λL hL=>by
  apply Vx;intro i;by_cases hi:i<g.is.length
  . simp[hi,show i<L.length by omega]
  . simp[hi,show L.length<=i by omega]
 simp only[QQ,s0T,e _ hA,e _ hP]
theorem Qib (n a:Nat):(Qt n).getD a 0=0:=by
 by_cases h:a<n<;>simp[Qt,h,Vr]
theorem Qg6 (i:Nat):(z0 g).A i=if i<g.is.length then Qad g i else []:=by
 simp only[z0,s0T,T0];by_cases h:i<g.is.length<;>simp[h]
theorem Qis (i:Nat):(z0 g).P i=if i<g.is.length then Qad g i else []:=Qg6 i
theorem Qog (h:Sml g):Qao g (T0 g)=0:=by
 unfold Qao;rw[Wa (by rw[h.prp]; simp),<- QtW (g:=g) (t:=T0 g) (by simp[T0]) (by simp[T0])];refine(Qot h.w (λi hi => ?_) (λi hi => ?_) ?_ ?_ (λi hi a => ?_)).2 λi hi a ha => ?_
 . show((z0 g).A i).length=_;rw[Qg6,Wb hi]; simp[Qad]
 . show((z0 g).P i).length=_;rw[Qis,Wb hi]; simp[Qad]
 . simp[s0T,T0]
 . simp[s0T,T0]
 . show 0<=((z0 g).P i).getD a 0;rw[Qis,Wb hi,Qad,Qib]; exact V4 _
 . show Qa5 (z0 g) i a;unfold Qa5;rw[Qg6,Qis,Wb hi,Qad,Qib]; omega
theorem Qud (h:Sml g):SOk g (z0 g):=Qll (Qog h)
theorem Quf:SBd (z0 g) 0 0:=by
 refine⟨λj a => ?_,λj a => ?_⟩
 . rw[Qg6];split
   . rw[Qad,Qib]; omega
   . simp
 . rw[Qis];split
   . rw[Qad,Qib]; omega
   . simp
theorem Qpu (h:Sml g) {m:Nat} (hm:m<=200):∃ s,Qbq g m (z0 g)=some s/\SOk g s/\SBd s (2048000000*60*m) (1073741824*m)/\s.rnd=m/\s.seed=0/\QaB g (T0 g) m=(QQ g s,0):=by
 have hb:SBd (z0 g) (2048000000*60*(0:Nat)) (1073741824*(0:Nat)):=by simpa using Quf (g:=g)
 obtain⟨s,h1,h2,h3,h4,h5⟩:=Qng h.w h.n m (z0 g) 0 (Qud h) hb (by simp[z0,s0T,T0]; omega) (by omega);refine⟨s,h1,h2,by simpa using h3,by rw[h4]; simp[z0,s0T,T0],by rw[h5]; rfl,?_⟩;unfold QaB;rw[Wa (by rw[Qog h]; simp),Wa (by simp only[T0]; omega)];have e:Qbq g (m:Int).toNat (s0T g (T0 g).rnd (T0 g).seed (T0 g).A (T0 g).P)=some s:=by rw[Int.toNat_natCast]; exact h1
 rw[e]
theorem QnB (h:Sml g) {s:TS} (hs:SOk g s):Qao g (QQ g s)=0:=by
 unfold Qao;rw[Wa (by rw[h.prp]; simp)];exact(Qot h.w hs.A hs.P ⟨hs.r0,hs.r1⟩ hs.sd hs.pn).2 hs.ok
end
theorem Quh {f:Nat->Int} {n a:Nat} (h:∀ k,k<n->0<=f k) (ha:a<n) (hs:Qe f n=f a):∀ k,k<n->k≠a->f k=0:=by
 have hm:=QlU h;have key:∀ n',n'<=n->(a<n'->f a<=Qe f n')/\∀ k,k<n'->k≠a->f k+(if a<n' then f a else 0)<=Qe f n':=by
  intro n'
  induction n' with
  |zero=>intro _; exact⟨λh=>absurd h (by omega),λk hk=>absurd hk (by omega)⟩
  |succ m ih =>
   intro hm';obtain⟨i1,i2⟩:=ih (by omega);have h0:=(hm m (by omega)).1;have hfm:=h m (by omega);simp only[Qe];refine⟨λhlt => ?_,λk hk hne => ?_⟩
   . by_cases e:a=m
     . subst e; omega
     . have:=i1 (by omega); omega
   . by_cases ek:k=m
     . subst ek;by_cases ea:a<k+1
       . rw[Wb ea];have:=i1 (by omega); omega
       . rw[Wa ea]; omega
     . have h3:=i2 k (by omega) hne;by_cases ea:a=m
       . subst ea;rw[Wa (by omega)]at h3;rw[Wb (by omega)]; omega
       . by_cases el:a<m
         . rw[Wb el]at h3;rw[Wb (by omega)]; omega
         . rw[Wa el]at h3;rw[Wa (by omega)]; omega
 intro k hk hne;have h1:=(key n (Vc _)).2 k hk hne;rw[Wb ha]at h1;have:=h k hk;omega
section
variable {g:Gm} {M V R:List Int} {S A P:Nat->List Int}
theorem QtX (hW:Wg g) (hS:Qdn g S) (hV:QdH g M S V) {i a q:Nat} (hi:i<g.ns.length) (hk:g.ns[i].k=2) (ha:a<g.ns[i].nx.length) (hq:(q:Int)<g.pl) (hsh:(S g.ns[i].i.toNat).getD a 0=65536) :
 V.getD (i*4+q) 0=V.getD ((g.ns[i].nx.getD a 0).toNat*4+q) 0:=by
 have hx:g.ns[i]? = some g.ns[i]:=Vb hi;obtain⟨b1,b2,b3,b4,b5⟩:=QbD hW hi hk;have hB:brW g M i=65536:=by simp[brW,hx,hk]
 have hP:∀ k,brP g S i k=(S g.ns[i].i.toNat).getD k 0:=λk=>by simp[brP,hx,hk]
 obtain⟨s1,s2⟩:=hS _ b1;have hz:=Quh (f:=λk=>(S g.ns[i].i.toNat).getD k 0) (n:=g.acts g.ns[i].i.toNat) (a:=a) (λk hk=>(s1 k hk).1) (by omega) (by rw[s2,hsh]);have hch:=(hW.wf.nf i hi).ch _ (Vg ha);have e:g.ns[i].nx.getD a 0=g.ns[i].nx[a]:=by simp[ha]
 have hv:=Qku hW hS hV g.ns.length g.ns[i].nx[a].toNat q (by omega) (by omega) hq;rw[hV.eq i q hi hq];simp only[Qbv,hx];rw[Wa (by omega),hB];have acc:∀ k,k<=g.ns[i].nx.length->QV g S V g.ns[i].nx i q k=if a<k then V.getD ((g.ns[i].nx.getD a 0).toNat*4+q) 0*65536 else 0:=by
  intro k
  induction k with
  |zero=>intro _; rfl
  |succ k ih =>
   intro hk';simp only[QV];rw[ih (by omega),hP];by_cases ea:k=a
   . subst ea;rw[Wa (by omega),Wb (by omega),hsh,e];generalize V.getD (g.ns[i].nx[k].toNat*4+q) 0=v at *;rw[Qi (n:=v*65536) (by omega) (by omega),Int.zero_add,Qi (by omega) (by omega)]
   . have h0:=hz k (by omega) ea;rw[h0,Int.mul_zero];have w0:IntKind.i64.wrap 0=0:=Qi (by omega) (by omega);rw[w0,Int.add_zero,e];generalize V.getD (g.ns[i].nx[a].toNat*4+q) 0=v at *;by_cases el:a<k
     . rw[Wb el,Wb (by omega),Qi (by omega) (by omega)]
     . rw[Wa el,Wa (by omega),w0]
 rw[acc _ (Vc _),Wb ha,e];generalize V.getD (g.ns[i].nx[a].toNat*4+q) 0=v at *;rw[Int.mul_tdiv_cancel _ (by decide),Qi (by omega) (by omega)]
theorem Qus (hW:Wg g) (hS:Qdn g S) (hV:QdH g M S V) {i a:Nat} (hi:i<g.ns.length) (hk:g.ns[i].k=2) (ha:a<g.ns[i].nx.length) (hsh:(S g.ns[i].i.toNat).getD a 0=65536):QaP g V R i a=0:=by
 have hx:g.ns[i]? = some g.ns[i]:=Vb hi;obtain⟨q0,q1⟩:=QeH hW hi hk;have hv:=QtX hW hS hV (q:=g.ns[i].p.toNat) hi hk ha (by omega) hsh;have w0:IntKind.i64.wrap 0=0:=Qi (by omega) (by omega);simp only[QaP,hx];rw[hv,Int.sub_self,w0,Int.mul_zero,w0,Int.zero_tdiv,w0]
theorem QlL (hW:Wg g) (hS:Qdn g S) (hV:QdH g M S V) {j a:Nat} (ha:a<g.acts j) (hsh:(S j).getD a 0=65536) (hb : -4611686018427387904<=(A j).getD a 0/\(A j).getD a 0<=4611686018427387904) :
 ∀ i,i<=g.ns.length->(Qay g V R A i j).getD a 0=(A j).getD a 0
 |0,_=>rfl
 |i+1,hi=>by
  have ih:=QlL hW hS hV ha hsh hb i (by omega);have hii:i<g.ns.length:=by omega
  have hx:g.ns[i]? = some g.ns[i]:=Vb hii;simp only[Qay,Qca,hx];by_cases hk:g.ns[i].k=2
  . obtain⟨b1,b2,b3,b4,b5⟩:=QbD hW hii hk;rw[Wb hk];unfold upA;by_cases e:j=g.ns[i].i.toNat
    . have hal:a<g.ns[i].nx.length:=by rw[e]at ha; omega
      have hd:=Qus hW hS hV (R:=R) hii hk hal (by rw[<-e]; exact hsh);rw[Wb e,Qcr hal,hd,<- e,ih,Int.add_zero,Qi (by omega) (by omega)]
    . rw[Wa e]; exact ih
  . rw[Wa hk]; exact ih
theorem QpJ (x:Int):QeZ x 0=0:=by
 have w0:IntKind.i64.wrap 0=0:=Qi (by omega) (by omega);unfold QeZ;rw[Int.mul_zero,w0,Int.zero_tdiv,w0]
theorem QiL {f:Nat->List Int} {n j:Nat} (h:j<n):((List.range n).map f).getD j []=f j:=by simp[h]
theorem Qso (h:Sml g) {m:Nat} (hm:m<=60):∃ T Nx:Tin,QaB g (T0 g) m=(T,0)/\QaB g T 1=(Nx,0)/\Qao g T=0/\Qao g Nx=0/\(∀ l∈T.A,ShO l) /\
 ∀ j,j<g.is.length->∀ a,a<g.acts j->((Qp (T.A.getD j [])).getD a 0=65536->(Nx.A.getD j []).getD a 0=(T.A.getD j []).getD a 0)/\((Qp (T.A.getD j [])).getD a 0=0->(Nx.P.getD j []).getD a 0=(T.P.getD j []).getD a 0):=by
 have hW:=h.w;obtain⟨s,s1,s2,s3,s4,s5,s6⟩:=Qpu h (m:=m) (by omega);have hn:=h.n;have hc:=QnB h s2;obtain⟨t,ht⟩:∃ t,t=s0T g (QQ g s).rnd (QQ g s).seed (QQ g s).A (QQ g s).P:=⟨_,rfl⟩;have hs':SOk g t:=by rw[ht]; exact Qll hc
 have tA:∀ j,j<g.is.length->t.A j=s.A j:=λj hj=>by rw[ht]; simp[s0T,QQ,hj]
 have tP:∀ j,j<g.is.length->t.P j=s.P j:=λj hj=>by rw[ht]; simp[s0T,QQ,hj]
 have tr:t.rnd=m:=by rw[ht]; exact s4
 have tse:t.seed=0:=by rw[ht]; exact s5
 have hbd:SBd t (2048000000*60*60) (1073741824*60):=by
  refine⟨λj a => ?_,λj a => ?_⟩
  . by_cases hj:j<g.is.length
    . rw[tA j hj];have:=s3.1 j a; omega
    . have e:t.A j=[]:=by rw[ht]; simp[s0T,QQ,hj]
      rw[e]; simp
  . by_cases hj:j<g.is.length
    . rw[tP j hj];have:=s3.2 j a; omega
    . have e:t.P j=[]:=by rw[ht]; simp[s0T,QQ,hj]
      rw[e]; simp
 have hb2:=QlD hW hs' (by omega) (by omega) hbd (by omega) (by omega);have ho:QaE g (Qai g (cTC g) t):=by
  intro i _ a _;have e1:=hb2.1 i a;have e2:=hb2.2 i a;unfold Qa5;omega
 have hok2:=QmU hW hs' (by omega) ho;refine⟨QQ g s,QQ g (Qai g (cTC g) t),s6,?_,hc,QnB h hok2,QrL hW s2,λj hj a ha => ?_⟩
 . unfold QaB;have hrr:(QQ g s).rnd=m:=s4;rw[Wa (by rw[hc]; simp),Wa (by rw[hrr]; omega),<- ht];have e:Qbq g (1:Int).toNat t=some (Qai g (cTC g) t):=by
    show Qbq g 1 t=_;simp only[Qbq];rw[Wb (QiN.2 ho)]
   rw[e]
 . simp only[QQ];rw[QiL hj,QiL hj,QiL hj,QiL hj,<- tA j hj,<- tP j hj];have hSS:=QgS hW hs';have hSj:=QeB t g.is.length j hj;refine⟨λhsh => ?_,λhsh => ?_⟩
   . rw[Qhi];have:=hbd.1 j a;exact QlL hW hSS (Qmt hW hs') ha (by rw[hSj]; exact hsh) (by omega) g.ns.length (Vc _)
   . rw[Qf6,QeW,Wb hj,Qcr ha];unfold QaG;rw[hSj,hsh,QpJ,Int.add_zero];have h1:=hbd.2 j a;have h2:=hs'.pn j hj a;exact Qi (by omega) (by omega)
end
section
variable {H:Wu} {g:Gm}
theorem ok15 (t:Tin):Ok Try.prog 15 [.agg g.cells,.agg t.cells] H (.ret (.tup [.agg (QaB g t 1).1.cells,i64 (QaB g t 1).2])) H:=by
 refine Qq hm Try.func15 c15 (by simp[Gm.cells,Qbe,Qbj,Tin.cells,QcT]) λhcl => ?_;have h8:=λH=>ok8 (H:=H) (g:=g) t 1 (by omega);simp only[Gm.cells,Tin.cells]at h8;simp -implicitDefEqProofs[i15,r15,Gm.cells,Tin.cells];refine Qj (h8 _) ?_;simp -implicitDefEqProofs;exact Ql 3 hcl rfl (Qap (by simp[SV.under,QcT]))
end
structure ZW (g:Gm) (H:Wu) (t:Tin) (A:Nat->List Int) (q:List Int) (X:Wu):Prop where
 tb:X[H.length+1]? = some (tB t)
 oo:X[H.length+3]? = some ⟨QJ g.is.length (pB (H.length+2)) g.acts 0,36,0,true⟩
 r:∀ i,i<g.is.length->X[pB (H.length+2) i]? = some ⟨Qa (A i),3,0,true⟩
 od:X[H.length+4+2*g.is.length]? = some ⟨Qa q,71,0,true⟩
 l:∀ i,i<g.is.length->(A i).length=g.acts i
 lq:q.length=10
 low:∀ j,j<H.length->X[j]? = H[j]?
section
variable {H X:Wu} {g:Gm} {t:Tin} {A:Nat->List Int} {q:List Int}
theorem ZW.sh (hW:Wg g) (h:ZW g H t A q X) {j:Nat} (hj:j<g.is.length) {l:List Int} (hl:ShO l) (hll:l.length=g.acts j) :
 ∃ X',Ok Try.prog 38 [sl l,.own (pB (H.length+2) j) 0 (g.acts j) 1 0,.own (H.length+4+2*g.is.length) 0 (g.acts j) 1 0] X (.ret (.tup [])) X'/\ZW g H t (upA A j (Qp l)) (((QD l).map λ(n:Nat)=>(n:Int))++q.drop l.length) X':=by
 have hac:=Qby hW hj;have hlA:=h.l j hj;have hlq:=h.lq;have hne:pB (H.length+2) j≠H.length+4+2*g.is.length:=by unfold pB; omega
 have hP:P2 X (pB (H.length+2) j) (H.length+4+2*g.is.length):=⟨Qb (h.r j hj),Qb h.od,hne⟩;have hG:G2 X (pB (H.length+2) j) (H.length+4+2*g.is.length) ⟨Qa (A j),3,0,true⟩ (oI [] (q.take (g.acts j)) (Qa (q.drop (g.acts j))) 71 0)=X:=by
  refine Qmc (h.r j hj) ?_;rw[h.od];have e:Qa q=Qa (q.take (g.acts j))++Qa (q.drop (g.acts j)):=by
   simp only[Qa,<- Y6,Yk]
  unfold oI;rw[Ye,<- e]
 obtain⟨a1,a2,a3⟩:=hl;have key:=ok38 (H:=X) (a:=pB (H.length+2) j) (k:=H.length+4+2*g.is.length) (va:=0) (v:=0) (T:=71) (C:=[]) (D:=Qa (q.drop (g.acts j))) (x:=sl l) (l:=l) (o0:=A j) (p0:=q.take (g.acts j)) hP ⟨rfl,by simp⟩ (λo p L=>isl _ l) a1 a2 a3 (by rw[hlA,hll]) (by rw[Yy,hll]; omega);rw[hG,hll]at key;refine⟨_,key,?_⟩;have e:oN [] (QD l) (Qa (q.drop (g.acts j))) 71 0=⟨Qa (((QD l).map λ(n:Nat)=>(n:Int))++q.drop l.length),71,0,true⟩:=by
  rw[hll];simp[oN,QaJ,Qa]
 rw[e];have ne:∀ {k:Nat} {x:Option AO},pB (H.length+2) j≠k->H.length+4+2*g.is.length≠k->X[k]? = x->(G2 X (pB (H.length+2) j) (H.length+4+2*g.is.length) ⟨Qa (Qp l),3,0,true⟩ ⟨Qa (((QD l).map λ(n:Nat)=>(n:Int))++q.drop l.length),71,0,true⟩)[k]? = x:=λhn hn2 hx=>by unfold G2; rw[Ve hn2,Ve hn]; exact hx
 refine⟨ne (by unfold pB; omega) (by omega) h.tb,ne (by unfold pB; omega) (by omega) h.oo,λi hi => ?_,?_,λi hi => ?_,?_,λi hi => ?_⟩
 . by_cases e2:i=j
   . subst e2;have:=QhX (L:=[]) (Qb (h.r i hi)) hne (o:=⟨Qa (Qp l),3,0,true⟩) (p:=⟨Qa (((QD l).map λ(n:Nat)=>(n:Int))++q.drop l.length),71,0,true⟩);rw[VQ]at this;rw[this]; simp[upA]
   . rw[ne (x:=X[pB (H.length+2) i]?) (by unfold pB; omega) (by unfold pB; omega) rfl,h.r i hi];simp[upA,e2]
 . have:=QhN (L:=[]) (a:=pB (H.length+2) j) (Qb h.od) (o:=⟨Qa (Qp l),3,0,true⟩) (p:=⟨Qa (((QD l).map λ(n:Nat)=>(n:Int))++q.drop l.length),71,0,true⟩);rw[VQ]at this;exact this
 . unfold upA; split
   . rename_i e2; rw[e2,QdZ]; exact hll
   . exact h.l i hi
 . simp[QjX]; omega
 . exact ne (by unfold pB; omega) (by omega) (h.low i hi)
def shA (g:Gm) (L:List (List Int)):Nat->Nat->List Int
 |0=>Qad g
 |i+1=>upA (shA g L i) i (Qp (L.getD i []))
def sqA (L:List (List Int)):Nat->List Int
 |0=>Qt 10
 |i+1=>((QD (L.getD i [])).map λ(n:Nat)=>(n:Int))++(sqA L i).drop (L.getD i []).length
set_option maxRecDepth 10000 in
theorem Qo4 (hW:Wg g) (hT:QjU g t) (hS:∀ l∈t.A,ShO l) {N:Nat} {K:Wt}
 (hexit:∀ env X,ZW g H t (shA g t.A g.is.length) (sqA t.A g.is.length) X->env.get 7=.own (H.length+3) 0 g.is.length 1 0->K (.exit 0) env X) :
 ∀ (m i:Nat) (X:Wu) (env:Env),i+m=g.is.length->ZW g H t (shA g t.A i) (sqA t.A i) X->env.get 3=.ptr (.own (H.length+1) 0 0 0 0) 0->env.get 7=.own (H.length+3) 0 g.is.length 1 0->env.get 8=.ptr (.own (H.length+4+2*g.is.length) 0 0 0 0) 0->env.get 19=.own (H.length+3) 0 g.is.length 1 0->env.get 20=i64 g.is.length->env.get 21=i64 i ->
  LI Try.prog N Qh QiH env X K:=by
 have hil:=hW.gd.i;intro m
 induction m with
 |zero =>
  intro i X env hi h h3 h7 h8 h19 h20 h21;refine Qc hm QiH.eq_1 ?_;have e:i=g.is.length:=by omega
  subst e;simp -implicitDefEqProofs[h20,h21];exact hexit _ X h (by simp[h7])
 |succ m ih =>
  intro i X env hi h h3 h7 h8 h19 h20 h21;refine Qc hm QiH.eq_1 ?_;have hii:i<g.is.length:=by omega
  obtain⟨n1,n2⟩:=Qby hW hii;have w1:=QR (show i<9223372036854775807 by omega);have hiA:i<t.A.length:=by rw[hT.la]; exact hii
  have lA:=hT.a i hiA;obtain⟨X',k1,k2⟩:=h.sh hW hii (hS _ (Vg hiA)) lA;have eA:upA (shA g t.A i) i (Qp t.A[i])=shA g t.A (i+1):=by simp[shA,hiA]
  have eQ:((QD t.A[i]).map λ(n:Nat)=>(n:Int))++(sqA t.A i).drop t.A[i].length=sqA t.A (i+1):=by simp[sqA,hiA]
  rw[eA,eQ]at k2;have hTb:=Qce h.tb [];have hOo:=Qce h.oo [];have hOd:=Qce h.od [];simp only[VQ]at hTb hOo hOd;have hq:=h.lq;have hca:SV.cutA 1 0 (g.acts i) (.ptr (.own (H.length+4+2*g.is.length) 0 0 0 0) 0)=.own (H.length+4+2*g.is.length) 0 (g.acts i) 1 0:=by simp[SV.cutA]
  simp -implicitDefEqProofs[h3,h7,h8,h19,h20,h21,hTb,hOo,hOd,tB,Tin.cells,hii,hiA,QbY hiA,hca];refine⟨by omega,by omega,⟨by omega,by omega⟩,Qj k1 ?_⟩;simp -implicitDefEqProofs[h3,h7,h8,h19,h20,h21,w1];exact ih (i+1) _ _ (by omega) k2 (by simp[h3]) (by simp[h7]) (by simp[h8]) (by simp[h19]) (by simp[h20]) (by simp)
theorem Qk6 {L:List (List Int)}:∀ (n j:Nat),j<n->shA g L n j=Qp (L.getD j [])
 |0,j,h=>absurd h (by omega)
 |n+1,j,h=>by
  simp only[shA,upA];by_cases e:j=n
  . rw[Wb e,e]
  . rw[Wa e]; exact Qk6 n j (by omega)
theorem ok14 (hW:Wg g) (hc:Qao g t=0) (hT:QjU g t) (hS:∀ l∈t.A,ShO l):Ok Try.prog 14 [.agg g.cells,.agg t.cells] H (.ret (.tup [.slc (sls ((List.range g.is.length).map λj=>Qp (t.A.getD j []))) g.is.length,i64 0])) H:=by
 refine Qq hm Try.func14 c14 (by simp[Gm.cells,Qbe,Qbj,Tin.cells,QcT]) λhcl => ?_;have h16:=λH=>QiC (H:=H) (g:=g) (t:=t);have h37:=λH=>Qjz (H:=H) hW;simp only[Gm.cells,Tin.cells]at h16 h37;simp -implicitDefEqProofs[i14,r14,Gm.cells,Tin.cells];refine Qj (h16 _) ?_;simp -implicitDefEqProofs[hc];refine Qj (h37 _) ?_;have hb:=Qep g g.is.length;have hbr:=Qhg g g.is.length;generalize Qax g g.is.length=M at *;have h0:ZW g H t (Qad g) (Qt 10) (H++QG g::tB t::QG g::⟨QJ g.is.length (pB (H.length+2)) g.acts 0,36,0,true⟩::(M++[⟨Qa (Qt 10),71,0,true⟩])):=by
  refine⟨?_,?_,λi hi => ?_,?_,λi hi=>by simp[Qad,Qt],by simp[Qt],λj hj=>by rw[Vd hj]⟩
  . rw[Vf (by omega)]; simp
  . rw[Vf (by omega)]; simp
  . rw[Vf (by unfold pB; omega),show pB (H.length+2) i-H.length=(2*i+1)+4 by unfold pB; omega];simp only[VS];rw[Vd (by omega)]; exact hbr i hi
  . rw[Vf (by omega),show H.length+4+2*g.is.length-H.length=M.length+4 by omega];simp only[VS];rw[Vf (by omega)]; simp
 have ez:Qa (Qt 10)=[i64 0,i64 0,i64 0,i64 0,i64 0,i64 0,i64 0,i64 0,i64 0,i64 0]:=rfl;have ep:H.length+(M.length+4)=H.length+4+2*g.is.length:=by omega
 rw[ez]at h0;simp -implicitDefEqProofs;refine Qo4 (H:=H) (t:=t) hW hT hS (λenv X h g7 => ?_) g.is.length 0 _ _ (by omega) h0 (by simp) (by simp) (by simp[ep]) (by simp) (by simp) (by simp);simp -implicitDefEqProofs[g7];have fS:=Qgy (H:=H) (G:=X) (p:=H.length+3) (A:=λj=>Qp (t.A.getD j [])) (by omega) h.oo (λi hi=>⟨by unfold pB; omega,by rw[h.r i hi,Qk6 _ _ hi],by have:=h.l i hi; rw[Qk6 _ _ hi]at this; exact this⟩) 1;have hfz:SV.fz H.length [] (X.drop H.length) 5 (.tup [.own (H.length+3) 0 g.is.length 1 0,i64 0])=.tup [.slc (sls ((List.range g.is.length).map λj=>Qp (t.A.getD j []))) g.is.length,i64 0]:=by
  simp only[QhF,Vs,V3,Qcd,Nat.reduceAdd,fS]
 have:=Ql (n0:=H.length) (H:=H) (L:=X.drop H.length) 5 hcl rfl hfz;rw[<-QeG h.low]at this;exact this
end
def Qj4:Tin:=⟨0,0,[[0,0],[0,0],[0,0,0]],[[0,0],[0,0],[0,0,0]]⟩
def QcB:Tin:=⟨1,0,[[171,-171],[341,-341],[341,-1194,853]],[[536870912,536870912],[536870912,536870912],[178962432,178954240,178954240]]⟩
theorem Qt1:Qdi exG=(Qj4,0):=by kernel_rfl
theorem Qpi:QaB exG Qj4 1=(QcB,0):=by kernel_rfl
theorem Qi1:Qao exG QcB=0:=by kernel_rfl
theorem Qp2:(List.range exG.is.length).map (λj=>Qp (QcB.A.getD j []))=[[65536,0],[65536,0],[18717,0,46819]]:=by kernel_rfl
section
variable {H:Wu}
theorem Qpr:∀ l∈QcB.A,ShO l:=by
 intro l hl;simp only[QcB,Vi,VL,Wi]at hl;rcases hl with rfl|rfl|rfl<;>refine⟨by decide,by decide,λv hv => ?_⟩<;>simp at hv<;>omega
theorem Qm2 {X:Wu} {p q0 q1 q2:Nat} {l0 l1 l2:List Int} (h:X[p]? = some ⟨[.own q0 0 l0.length 1 0,.own q1 0 l1.length 1 0,.own q2 0 l2.length 1 0],36,0,true⟩) (h0:X[q0]? = some ⟨Qa l0,3,0,true⟩) (h1:X[q1]? = some ⟨Qa l1,3,0,true⟩) (h2:X[q2]? = some ⟨Qa l2,3,0,true⟩) :
 SV.fz 0 [] X 4 (.own p 0 3 1 0)=.slc (sls [l0,l1,l2]) 3:=by
 have:=Qgy (H:=[]) (G:=X) (I:=3) (p:=p) (q:=λi=>[q0,q1,q2].getD i 0) (n:=λi=>[l0.length,l1.length,l2.length].getD i 0) (A:=λi=>[l0,l1,l2].getD i []) (v:=0) (w:=0) (T:=36) (by simp) (by rw[h]; rfl) (λi hi=>by
  have hi3:i=0\/i=1\/i=2:=by omega
  rcases hi3 with rfl|rfl|rfl
  . exact⟨by simp,h0,rfl⟩
  . exact⟨by simp,h1,rfl⟩
  . exact⟨by simp,h2,rfl⟩) 1
 exact this
set_option maxRecDepth 10000 in
theorem ok6:Ok Try.prog 6 [] H (.ret (bl true)) H:=by
 refine Qq hm Try.func6 c6 (by simp) λhcl => ?_;have h13:=λH=>ok13 (H:=H) (g:=exG);have h15:=λH=>ok15 (H:=H) (g:=exG) Qj4;have h14:=λH=>ok14 (H:=H) (g:=exG) (t:=QcB) (QdG Qi1).1 Qi1 (Qm6 Qi1) Qpr;rw[Qt1]at h13;rw[Qpi]at h15;rw[Qp2]at h14;simp only[Tin.cells]at h13 h15 h14;simp -implicitDefEqProofs[i6,r6];refine Qj Qj9 ?_;simp -implicitDefEqProofs;refine Qj (h13 _) ?_;simp -implicitDefEqProofs;refine QN (λ_=>Qj9) ?_;simp -implicitDefEqProofs;refine QN (λ_=>h15 _) ?_;simp -implicitDefEqProofs;refine QN (λ_=>Qj9) ?_;simp -implicitDefEqProofs;refine QN (λ_=>h14 _) ?_;simp -implicitDefEqProofs;have e1:∀ L:Wu,SV.fz 0 [] (H++L) 4 (.slc (sls QcB.A) QcB.A.length)=.slc (sls QcB.A) QcB.A.length:=λL=>Qap (by simp[QcT]);have at':∀ (L:Wu) (k:Nat),(H++L)[H.length+k]? = L[k]? := λL k=>by rw[Vf (by omega)]; congr 1; omega
 refine QdK (r:=bl true) (λ_=>Ok.fz 4 ?_) ?_
 . simp only[Vs,V3,SV.strip,e1];rw[Qm2 (l0:=[171,-171]) (l1:=[341,-341]) (l2:=[341,-1194,853]) (by rw[at' _ 4]; rfl) (by rw[at' _ 1]; rfl) (by rw[at' _ 2]; rfl) (by rw[at' _ 3]; rfl)];exact QnS (A:=QcB.A) (by decide) (by decide)
 simp -implicitDefEqProofs;have e2:∀ L:Wu,SV.fz 0 [] (H++L) 4 (.slc (sls [[65536,0],[65536,0],[18717,0,46819]]) exG.is.length)=.slc (sls [[65536,0],[65536,0],[18717,0,46819]]) exG.is.length:=λL=>Qap (by simp[QcT]);refine QdK (r:=bl true) (λ_=>Ok.fz 4 ?_) ?_
 . simp only[Vs,V3,SV.strip,e2];rw[Qm2 (l0:=[65536,0]) (l1:=[65536,0]) (l2:=[18717,0,46819]) (by rw[at' _ 8]; rfl) (by rw[at' _ 5]; rfl) (by rw[at' _ 6]; rfl) (by rw[at' _ 7]; rfl)];exact QnS (A:=[[65536,0],[65536,0],[18717,0,46819]]) (by decide) (by decide)
 simp -implicitDefEqProofs;exact Ql 1 hcl rfl (by simp)
end
end Go.Proofs.Ytogjmpkehjfecaa.Rc
namespace Go.Proofs.Ytogjmpkehjfecaa.Rc
open Go.Ab Go.Ab.Shr Go.Ab.Lm
theorem c4:QdQ Try.prog Qcy Try.f4 i4 r4=true:=by kernel_rfl
def shF (s:List Int):Nat->Int:=λk=>s.getD k 0
def X4 (H:Wu) (g:Gm) (T Nx:Tin) (G:Wu):Wu:=H++QG g::tB T::tB Nx::G
section
variable {H G:Wu} {g:Gm} {T Nx:Tin} {Sh:List (List Int)}
set_option maxRecDepth 10000 in
theorem QoZ {s r:List Int} {j:Nat} (hj:j<Sh.length) (hs:Sh[j]=s) (hjA:j<T.A.length) (hr:T.A[j]=r) (hl:s.length=r.length) (hl10:r.length<=10) (hsr:∀ x∈s,0<=x/\x<=65536) (hrr:∀ x∈r,-70368744177664<=x/\x<=70368744177664) {N:Nat} {K:Wt}
 (hexit:∀ env,env.get 7=.ptr (.own H.length 0 0 0 0) 0->env.get 8=.ptr (.own (H.length+1) 0 0 0 0) 0->env.get 11=.slc (sls Sh) Sh.length->env.get 13=.ptr (.own (H.length+2) 0 0 0 0) 0->env.get 15=i64 j->env.get 16=i64 (Qe (shF s) s.length)->env.get 17=i64 (Qg r)->K (.exit 2) env (X4 H g T Nx G)) :
 ∀ (m a:Nat) (env:Env),a+m=s.length->env.get 7=.ptr (.own H.length 0 0 0 0) 0->env.get 8=.ptr (.own (H.length+1) 0 0 0 0) 0->env.get 11=.slc (sls Sh) Sh.length->env.get 13=.ptr (.own (H.length+2) 0 0 0 0) 0->env.get 15=i64 j->env.get 16=i64 (Qe (shF s) a)->env.get 17=i64 (Qbi r a)->env.get 18=i64 a ->
  LI Try.prog N Qcy Qid env (X4 H g T Nx G) K:=by
 have hS1:(sls Sh)[j]?.getD .any=sl s:=by rw[<-hs]; exact Qdh hj
 have hS2:∀ h,(sls Sh)[j]'h=sl s:=λh=>by rw[<-hs]; exact QbY hj
 have hA1:(sls T.A)[j]?.getD .any=sl r:=by rw[<-hr]; exact Qdh hjA
 have hA2:∀ h,(sls T.A)[j]'h=sl r:=λh=>by rw[<-hr]; exact QbY hjA
 have hsb:∀ a,a<=s.length->0<=Qe (shF s) a/\Qe (shF s) a<=65536*a:=by
  intro a
  induction a with
  |zero=>intro _; simp[Qe]
  |succ a ih =>
   intro ha;have h1:=ih (by omega);have hal:a<s.length:=by omega
   have h2:=hsr _ (Vg hal);have e:shF s a=s[a]:=by simp[shF,hal]
   simp only[Qe];rw[e]; omega
 intro m
 induction m with
 |zero =>
  intro a env hi h7 h8 h11 h13 h15 h16 h17 h18;refine Qe6 hm Qid.eq_1 ?_;have e:a=s.length:=by omega
  subst e;have ht:Qbi r s.length=Qg r:=by rw[hl]; rfl
  rw[ht]at h17;simp -implicitDefEqProofs[h7,h8,h11,h13,h15,h16,h17,h18,X4,hj,hS1,hS2,sl];exact⟨by omega,hexit _ (by simp[h7]) (by simp[h8]) (by simp[h11]) (by simp[h13]) (by simp[h15]) (by simp[h16]) (by simp[h17])⟩
 |succ m ih =>
  intro a env hi h7 h8 h11 h13 h15 h16 h17 h18;refine Qe6 hm Qid.eq_1 ?_;have has:a<s.length:=by omega
  have har:a<r.length:=by omega
  have q1:=hsr _ (Vg has);have q2:=hrr _ (Vg har);have q3:=hsb a (by omega);have q4:=Qkp r a;have q5:=QfN hl10 (λv hv=>(hrr v hv).2) a (by omega);have eS:shF s a=s[a]:=by simp[shF,has]
  have e1:IntKind.i64.wrap (Qe (shF s) a+s[a])=Qe (shF s) (a+1):=by
   simp only[Qe];rw[eS];exact Qi (by omega) (by omega)
  have e2:IntKind.i64.wrap (Qbi r a+max 0 r[a])=Qbi r (a+1):=by
   rw[Qnr har,Int.max_comm];exact Qi (by omega) (by omega)
  simp -implicitDefEqProofs[h7,h8,h11,h13,h15,h16,h17,h18,X4,hj,hjA,hS1,hS2,hA1,hA2,sl,has,har,tB,Tin.cells,e1,e2];repeat (refine⟨by omega,?_⟩)
  refine ih (a+1) _ (by omega) ?_ ?_ ?_ ?_ ?_ ?_ ?_ ?_;all_goals simp[h7,h8,h11,h13,h15,QR (show a<9223372036854775807 by omega)]
end
end Go.Proofs.Ytogjmpkehjfecaa.Rc
