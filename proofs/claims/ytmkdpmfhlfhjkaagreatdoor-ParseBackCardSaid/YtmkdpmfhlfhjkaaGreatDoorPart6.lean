/- Steps of the proof. -/
import Derived.Test.YtmkdpmfhlfhjkaaGreatDoorPart5
import Derived.Test.YtmkdpmfhlfhjkaaGreatDoorPart2
import Derived.Test.YtmkdpmfhlfhjkaaGreatDoorPart4
import Derived.Test.YtmkdpmfhlfhjkaaGreatDoorCore5
import Derived.LaidMore
import Derived.OpenShut
import Derived.Stop.Joined
import Derived.LaidHandle
import Derived.SevenTiedAt
import Derived.Test.YtmkdpmfhlfhjkaaGreatDoorCore4
set_option linter.all false
namespace Go.Proofs.YtmkdpmfhlfhjkaaGreatDoor
open Go.Ab
theorem QAe {op:Int} (h1:op≠1) (h2:op≠2) (h:0<(QW op).2):opN op=(QW op).2:=by
 have:op=3\/op=4\/(5<=op/\op<=17)\/op=18\/op=19\/op=20:=by
  unfold QW at h;split at h
  . omega
  . split at h
    . omega
    . split at h
      . omega
      . split at h
        . omega
        . split at h
          . omega
          . split at h
            . simp at h
            . omega
 rcases this with rfl|rfl|⟨a,b⟩|rfl|rfl|rfl
 . rfl
 . rfl
 . unfold opN QW;rw[Zq (by omega),Zq (by omega),Zq (by omega),Zr (by omega),Zq (by omega),Zq (by omega),Zq (by omega),Zq (by omega),Zq (by omega),Zq (by omega)]
 . rfl
 . rfl
 . rfl
theorem Qxb {op n p:Int} {nm:ZG} {l:List Ex} (h:Qda (.mk op n nm l p)=true) (hl:Qai l=true):QaG (.mk op n nm l p)=true:=by
 rw[QcJ];simp only[Qda]at h;by_cases h1:op=1
 . subst h1;simp only[Zv,Va,Zs]at h;obtain⟨⟨a,b⟩,d⟩:=h;subst a; subst b;exact⟨rfl,.inl rfl,.inr rfl,.inl (by decide),d.1,d.2,hl⟩
 . rw[Zq h1]at h;by_cases h2:op=2
   . subst h2;simp only[Zv,Va,Zs]at h;obtain⟨⟨a,b⟩,d⟩:=h;subst a; subst b;exact⟨rfl,.inr rfl,.inl rfl,.inr d,by decide,by decide,hl⟩
   . rw[Zq h2]at h;simp only[Va,Zs]at h;obtain⟨⟨⟨a,b⟩,d⟩,e⟩:=h;subst d; subst e;exact⟨by rw[b,QAe h1 h2 a],.inr rfl,.inr rfl,.inl h2,by decide,by decide,hl⟩
mutual
theorem Qoc:∀ e:Ex,e.prp->QaG e=true
 |.mk op n nm l p,h=>by
  unfold Ex.prp at h;exact Qxb h.1 (Qnf l h.2.2.2)
theorem Qnf:∀ l:List Ex,Ex.prpL l->Qai l=true
 |[],_=>by rw[Qai]
 |e::r,h=>by
  unfold Ex.prpL at h;rw[Qai,Va];exact⟨Qoc e h.1,Qnf r h.2⟩
end
theorem QbB.fine {l:List Ex} (h:QbB l):Qai l=true:=Qnf l (Qg4.2 h.prp)
theorem QgZ:Qai []=true:=by rw[Qai]
theorem Ql.prp.fine {s:Ql} (h:s.prp):QiL s=true:=by
 unfold QiL;rw[h.nm.ok,Qoc _ (h.e.prp _ (by simp))]; rfl
theorem QjV {s:ZG} (h:s=[]\/Qcy s):(decide (s=[])||QaR s)=true:=by
 rcases h with h|h
 . rw[h]; rfl
 . rw[h.ok,Bool.or_true]
theorem Qh.prp.fine {a:Qh} (h:a.prp):Qiw a=true:=by
 unfold Qiw;simp only[Va,Zs];exact⟨h.nm.ok,h.wh1,h.wh.fine,QjV h.go,Vi.2 λs hs=>(h.sets s hs).fine⟩
theorem Qlw {n:Int} (h:0<=n/\n<=1000000000):inB n=true:=by
 unfold inB; simpa using h
theorem Qc.prp.fine {x:Qc} (h:x.prp):QhE x=true:=by
 unfold QhE;simp only[Va];rcases h.kd with ⟨k,d,h1,h2,h3⟩|⟨k,t⟩|⟨k,e⟩
 . refine⟨QjV h.lb,d.wt.fine,by rw[h1,QgZ],by rw[h3,QgZ],?_⟩;rw[Zr k];simp only[Va,Zs];refine⟨Vi.2 λn hn=>Qlw (d.seen n hn),by unfold QlC; rw[h1,h2]; rfl,by rw[h3]; rfl,d.nm.ok,Qlw d.lo,Qlw d.hi,d.wt1,?_⟩
   cases ha:x.all with
   |false=>rfl
   |true=>rw[d.all ha]; rfl
 . refine⟨QjV h.lb,by rw[t.wt,QgZ],t.who.fine,by rw[t.pays,QgZ],?_⟩;rw[Zq (by omega),Zr k];simp only[Va,Zs];exact⟨Vi.2 λa ha=>(t.acts a ha).fine,by unfold Qli; rw[t.nm,t.lo,t.hi,t.wt,t.all,t.seen]; rfl,by rw[t.pays]; rfl,t.who1,by have:=t.acts0; omega⟩
 . refine⟨QjV h.lb,by rw[e.wt,QgZ],by rw[e.who,QgZ],e.pays.fine,?_⟩;rw[Zq (by omega),Zq (by omega),Zr k];simp only[Va,Zs];exact⟨by unfold Qli; rw[e.nm,e.lo,e.hi,e.wt,e.all,e.seen]; rfl,by unfold QlC; rw[e.who,e.acts]; rfl,by have:=e.pays0; omega⟩
theorem Qy.prp.fine {r:Qy} (h:r.prp):QlR r=true:=by
 unfold QlR;simp only[Va,Zs];refine⟨h.nm.ok,Qlw h.pl,by have:=h.s0; omega,Vi.2 λv hv => ?_,Vi.2 λx hx=>(h.stages x hx).fine⟩;have:=h.vars v hv;unfold Qj2;simp only[Va,Zs];exact⟨this.nm.ok,this.lo,this.hi⟩
theorem QC1 (e:Ex):e.er.op=e.op:=by cases e; rfl
mutual
theorem QhD:∀ e:Ex,aq e.er=aq e
 |.mk op n nm l p=>by rw[Ex.er,aq,aq,Qou l]
theorem Qou:∀ l:List Ex,shL (Ex.erL l)=shL l
 |[]=>rfl
 |e::r=>by rw[Ex.erL,shL,shL,QC1,QhD e,Qou r]
end
theorem Qsr (w:ZG) (l:List Ex):Qek w (Ex.erL l)=Qek w l:=by
 cases l with
 |nil=>rfl
 |cons e r=>show _::_::_::aq e.er=_; rw[QhD]; rfl
theorem Qkv {α:Type} {f:α->α} {p:α->List Pc} (h:∀ a,p (f a)=p a) (l:List α):(l.map f).flatMap p=l.flatMap p:=by
 rw[List.flatMap_map]; exact Zt (λg=>List.flatMap g l) (funext h)
theorem QBT (s:Ql):Qhz s.er=Qhz s:=by
 show _::_::_::_::_::(aq s.e.er++_)=_; rw[QhD]; rfl
theorem QvC (a:Qh):Qd9 a.er=Qd9 a:=by
 unfold Qd9 Qh.er;simp only[Qsr,Qkv QBT]
theorem Qvv (x:Qc):QdF x.er=QdF x:=by
 have hw:Qn0 (Ex.erL x.who)=Qn0 x.who:=by
  cases x.who with
  |nil=>rfl
  |cons e r=>show aq e.er=_; rw[QhD]; rfl
 unfold QdF Qc.er Qn8 Qjm QmR;simp only[Qsr,Qkv QvC,hw,Qou]
theorem Qsj (r:Qy):QgD r.er=QgD r:=by
 unfold QgD Qy.er;simp only[Qkv (p:=Qib) (f:=Qn.er) (λ_=>rfl),Qkv Qvv]
structure Tr where
 k:Int
 tx:ZG
 n:Int
 p:Int
def Tr.c (t:Tr):ZJ:=[V t.k,st (B t.tx),V t.n,V t.p]
def Tr.chk (t:Tr):Int:=Qbs t.k t.tx t.n
def chkL:List Tr->Int
 |[]=>0
 |t::r=>if t.chk=0 then chkL r else t.chk
def Tok.tr (t:Tok):Tr:=⟨t.k,t.tx,t.n,t.p⟩
theorem QzI {k:TK} (h:k.ok):0<k.tx.length:=by
 cases k with
 |wd s=>exact Yl.2 h.1
 |sg s =>
  rcases h with ⟨c,_,rfl⟩|hd
  . exact Nat.one_pos
  . simp only[QaO,Vd,Vu,Zw]at hd;rcases hd with rfl|rfl|rfl|rfl|rfl<;>decide
 |nm n=>exact Qit 18 n
theorem QvK {k:TK} {a b:ZG} (h:k.sep a) (he:a.getD 0 0=b.getD 0 0\/b=[]):k.sep b:=by
 cases k with
 |sg s =>
  rcases he with he|rfl
  . exact h.imp_right λh=>by rwa [<-he]
  . exact .inr ⟨by decide,by decide⟩
 |wd s =>
  have h:ao a 0≠2/\ao a 0≠3:=h;rcases he with he|rfl
  . show ao b 0≠2/\ao b 0≠3;unfold ao at h ⊢
    rwa [<-he]
  . exact⟨by decide,by decide⟩
 |nm n =>
  have h:ao a 0≠2/\ao a 0≠3:=h;rcases he with he|rfl
  . show ao b 0≠2/\ao b 0≠3;unfold ao at h ⊢
    rwa [<-he]
  . exact⟨by decide,by decide⟩
theorem QAF (k:TK) (r:ZG):k.sep (32::r):=by
 cases k with
 |sg s=>exact .inr ⟨by show(32:UInt8)≠61; decide,by show(32:UInt8)≠46; decide⟩
 |wd s=>exact⟨by show(1:Int)≠2; decide,by show(1:Int)≠3; decide⟩
 |nm n=>exact⟨by show(1:Int)≠2; decide,by show(1:Int)≠3; decide⟩
theorem QoB (k:TK):k.sep []:=QvK (QAF k []) (.inr rfl)
theorem QEr {k:TK} {t:Tok} (hk:k.ok) (hf:QgR t k) (h1:t.tx=k.tx) (h2:t.n=k.nV):t.tr.chk=0:=by
 have key:∀ {s:ZG} {j n:Int},Qw (s++[]) 0=.tok ⟨j,s,n,0⟩ s.length->0<s.length->1<=j->j<=3->Qbs j s n=0:=by
  intro s j n hs h0 hj hj3;rw[VE]at hs;have c1:ao s 0≠1:=by intro h; unfold Qw at hs; rw[Zr h]at hs; cases hs
  have c2:s.getD 0 0≠35:=by
   intro h;have:ao s 0=0:=by unfold ao; rw[h]; rfl
   unfold Qw at hs;rw[this,Zq (by decide),Zq (by decide),Zq (by decide),Zq (by decide),Zr h]at hs
   cases hs
  unfold Qbs;rw[Zq (by rintro(h|h|h|h|h); (rw[h]at h0; simp at h0); omega; omega; exact c1 h; exact c2 h),hs];simp
 show Qbs t.k t.tx t.n=0;have hl:=QzI hk;rw[h1,h2]
 cases k with
 |wd s=>rw[hf.1]; exact key (QqV hk (QoB (.wd s))) hl (by decide) (by decide)
 |sg s=>rw[hf.1]; exact key (QpZ hk (QoB (.sg s))) hl (by decide) (by decide)
 |nm n=>rw[hf.1]; exact key (Qs1 hk (QoB (.nm n)).2) hl (by decide) (by decide)
theorem QpB:∀ (s:ZG) (n:Int),(∀ c∈s,48<=c.toNat/\c.toNat<=57)->0<=n->n<=1000000000->(Qak s n).1=0->0<=(Qak s n).2/\(Qak s n).2<=1000000000
 |[],n,_,h1,h2,_=>⟨h1,h2⟩
 |c::r,n,hd,h1,h2,h0=>by
  have hc:=hd c (by simp);rw[Qak]at h0 ⊢;split at h0
  . cases h0
  . rename_i h3;rw[Zq h3];exact QpB r _ (λx hx=>hd x (by simp[hx])) (by omega) (by omega) h0
def Tok.gd (t:Tok):Prop:=(t.k=1->QeH t.tx)/\(t.k=2->0<=t.n/\t.n<=1000000000)
theorem Qp8 {l:ZG} {p q i:Nat} (h:i<(cut l p q).length):ao (cut l p q) i=ao l (p+i):=by
 simp only[cut,Yp,Yq]at h;unfold ao cut;congr 2;simp only[Vy,VQ,VU];rw[Zr (by omega)]
theorem QxV {l:ZG} {p q:Nat} {t:Tok} (hp:p<l.length) (h:Qw l p=.tok t q):t.gd:=by
 have hq:=mkq h hp;unfold Qw at h;split at h
 . cases h
 . split at h
   . rename_i hc;have htx:=Qga h;obtain⟨rfl,hk,_⟩:=Qbz h;refine⟨λ_ => ?_,λhk2=>(by rw[hk]at hk2; cases hk2)⟩
     have h4:(whE l 1 (cut l p (Q8 l [2,3] p)) p).1=0:=by
      unfold QN at h;split at h
      . cases h
      . rename_i h0; simpa using h0
     rw[htx];have hlen:(cut l p (Q8 l [2,3] p)).length=Q8 l [2,3] p-p:=by simp only[cut,Yp,Yq]; omega
     refine⟨λh0=>by rw[h0]at hlen; simp at hlen; omega,?_,λi hi => ?_,?_⟩
     . rw[Qp8 (by omega)]; exact hc
     . rw[Qp8 hi];have:=(QnF (l:=l) (cs:=[2,3]) (l.length-p) p (p+i) (by omega) (by rw[hlen]at hi; unfold Q8 at hi; omega)).2;simpa using this
     . unfold whE at h4;split at h4
       . cases h4
       . split at h4
         . cases h4
         . rename_i h5; simp at h5; exact h5
   . split at h
     . rename_i hc;have htx:=Qga h;refine⟨λhk2=>(by rw[(Qbz h).2.1]at hk2; cases hk2),λ_ => ?_⟩
       have h4:(whE l 2 (cut l p (Q8 l [3] p)) p).1=0/\t.n=(whE l 2 (cut l p (Q8 l [3] p)) p).2:=by
        unfold QN at h;split at h
        . cases h
        . rename_i h0
          cases h
          exact⟨by simpa using h0,rfl⟩
       obtain⟨h4,h5⟩:=h4;rw[h5];unfold whE at h4 ⊢;split at h4
       . cases h4
       . rename_i a1;rw[Zq a1];rw[Zq (by rintro⟨a,_⟩; cases a)]at h4 ⊢
         rw[Zq (by decide)]at h4 ⊢;split at h4
         . cases h4
         . rename_i a2;rw[Zq a2];exact QpB _ 0 Qjr (by decide) (by decide) h4
     . split at h
       . obtain⟨rfl,hk,_⟩:=Qbz h;exact⟨λhk2=>(by rw[hk]at hk2; cases hk2),λhk2=>(by rw[hk]at hk2; cases hk2)⟩
       . split at h
         . cases h
         . obtain⟨rfl,hk,_⟩:=Qbz h;exact⟨λhk2=>(by rw[hk]at hk2; cases hk2),λhk2=>(by rw[hk]at hk2; cases hk2)⟩
theorem QvM (l:ZG):∀ t∈(QB l).1,t.gd:=by
 intro t ht;unfold QB at ht;split at ht
 . simp at ht
 . split at ht
   . obtain⟨p,q,hp,hs⟩:=QiR _ _ ht;exact QxV hp hs
   . simp at ht
theorem Qzb {s:ZG} (h:QeH s) (hr:s∉QaB):QaR s=true:=by
 have:Qbs 1 s 0=0:=QEr (k:=.wd s) (t:=⟨1,s,0,0⟩) h ⟨rfl,rfl⟩ rfl rfl;unfold QaR;rw[this];simpa using hr
section
variable {c:Cx} {d:Nat} {F G:Rd->Ex×Rd}
def Fi (c:Cx) (d:Nat) (F:Rd->Ex×Rd):Prop:=∀ r,Gd c d r->(F r).2.e=0->QaG (F r).1=true
theorem Qvi {op p:Int} {a b:Ex} (h1:5<=op) (h2:op<=19) (ha:QaG a=true) (hb:QaG b=true):QaG (.mk op 0 [] [a,b] p)=true:=by
 rw[QcJ];refine⟨?_,.inr rfl,.inr rfl,.inl (by omega),by decide,by decide,?_⟩
 . unfold opN;rw[Zq (by omega),Zq (by omega),Zq (by omega),Zr (by omega)]; rfl
 . simp only[Qai,ha,hb]; rfl
theorem QpS {op p:Int} {a:Ex} (h:op=3\/op=4) (ha:QaG a=true):QaG (.mk op 0 [] [a] p)=true:=by
 rw[QcJ];refine⟨?_,.inr rfl,.inr rfl,.inl (by omega),by decide,by decide,by simp only[Qai,ha]; rfl⟩;rcases h with rfl|rfl<;>rfl
def Qon (aa:List (ZG×Int)):Bool:=aa.all λo=>decide (5<=o.2)&&decide (o.2<=19)
theorem Qlb {aa:List (ZG×Int)} {r:Rd} {op:Int} (hb:Qon aa=true) (h:QaH c aa r=some op):5<=op/\op<=19:=by
 unfold QaH at h;obtain⟨o,ho,rfl⟩:=V1.1 h;have:=Vi.1 hb o (Y5 ho);simpa using this
theorem QuU {aa:List (ZG×Int)} (hb:Qon aa=true) (hk:Kp c d F) (hF:Fi c d F):∀ (n:Nat) (e:Ex) (r:Rd),Gd c d r->(r.e=0->QaG e=true)->(Qa4 c aa F n e r).2.e=0->QaG (Qa4 c aa F n e r).1=true
 |0,e,r,_,he,h0=>he h0
 |n+1,e,r,hg,he,h0=>by
  rw[Qa4]at h0 ⊢;split at h0
  . rename_i op ho;have hl:=QdY ho;have hg1:=hg.next hl.2
    exact QuU hb hk hF n _ _ (hk _ hg1).1 (λh=>Qvi (Qlb hb ho).1 (Qlb hb ho).2 (he hl.1) (hF _ hg1 h)) h0
  . exact he h0
theorem Fi.bin {aa:List (ZG×Int)} (hb:Qon aa=true) (hk:Kp c d F) (hF:Fi c d F):Fi c d (Q0 c aa F):=λr hg h0=>QuU hb hk hF _ _ _ (hk r hg).1 (hF r hg) h0
theorem Fi.cmp (hk:Kp c d F) (hF:Fi c d F):Fi c d (Qaz c F):=λr hg h0=>by
 unfold Qaz at h0 ⊢;split at h0
 . rename_i op ho;have hl:=QdY ho;have hg1:=(hk r hg).1.next hl.2
   exact Qvi (Qlb (by decide) ho).1 (Qlb (by decide) ho).2 (hF r hg hl.1) (hF _ hg1 h0)
 . exact hF r hg h0
end
theorem Qvf:∀ {l m:List Ex},Qai l=true->Qai m=true->Qai (l++m)=true
 |[],_,_,h=>h
 |x::r,m,h1,h2=>by
  rw[Qai,Va]at h1;rw[Vv,Qai,Va];exact⟨h1.1,Qvf h1.2 h2⟩
section
variable {c:Cx} {d:Nat} {F G:Rd->Ex×Rd}
theorem Fi.nt (hd:d<=40) (hF:Fi c d F) (hG:∀ d',d=d'+1->Fi c d' G):Fi c d (Qal c F G):=λr hg h0=>by
 unfold Qal at h0 ⊢;split at h0
 . rename_i hp;rw[Zr hp];split at h0
   . rename_i he; exact absurd h0 he
   . rename_i he;rw[Zq he];obtain⟨d',hd',hg'⟩:=(QfU hd hg).2.2 (by simpa using he);exact QpS (.inr rfl) (hG d' hd' _ hg' h0)
 . rename_i hp;rw[Zq hp];exact hF r hg h0
theorem Qm9 {s:ZG} {r:Rd} (h:(Qj c s r).2.e=0):r.e=0:=QAI (F:=Qj c s) (Qe0 s) h
theorem QuE (hk:Kp c d F) (hF:Fi c d F):∀ (m:Nat) (l:List Ex) (r:Rd),Gd c d r->(r.e=0->Qai l=true)->∀ l' r3,QP c F m l r=(some l',r3)->r3.e=0->Qai l'=true/\l'.length=l.length+m
 |0,l,r,_,hl,l',r3,h,h0=>by
  simp only[QP,Prod.mk.injEq,Option.some.injEq]at h;obtain⟨rfl,rfl⟩:=h;exact⟨hl h0,rfl⟩
 |m+1,l,r,hg,hl,l',r3,h,h0=>by
  rw[QP]at h;split at h
  . cases h
  . rename_i he;have he:(Qj c [44] r).2.e=0:=by simpa using he
    have hg1:=(QcI [44] r hg).1;obtain⟨k1,k2⟩:=QuE hk hF m _ _ (hk _ hg1).1 (λh=>Qvf (hl (Qm9 he)) (by simp only[Qai,hF _ hg1 h]; rfl)) l' r3 h h0;exact⟨k1,by rw[k2]; simp; omega⟩
theorem Fi.call {s:ZG} {op p:Int} {m:Nat} (hd:d<=40) (hm:((m+1:Nat):Int)=opN op/\op≠2) (hk:∀ d',d=d'+1->Kp c d' F) (hF:∀ d',d=d'+1->Fi c d' F):Fi c d (Qcm c F s op m p):=λr hg h0=>by
 unfold Qcm at h0 ⊢;simp only at h0 ⊢;have hg1:=(QcI s r hg).1;split at h0
 . rename_i he; exact absurd h0 he
 . rename_i he;rw[Zq he];obtain⟨d',hd',hg'⟩:=(QfU hd hg1).2.2 (by simpa using he);generalize (QA c [40] (Qj c s r).2).2=q at *;have hk':=hk d' hd';have hF':=hF d' hd'
   cases hq:QP c F m [(F q).1] (F q).2 with
   |mk o r3 =>
    rw[hq]at h0
    cases o with
    |none =>
     exfalso;simp only at h0;have key:∀ (m:Nat) (l:List Ex) (r r3:Rd),QP c F m l r=(none,r3)->r3.e≠0:=by
      intro m
      induction m with
      |zero=>intro l r r3 h; simp[QP]at h
      |succ m ih =>
       intro l r r3 h;rw[QP]at h;split at h
       . rename_i h1;simp only[Prod.mk.injEq,true_and]at h;rw[<-h]; exact h1
       . exact ih _ _ _ h
     exact key _ _ _ _ hq h0
    |some l =>
     simp only at h0 ⊢;have h3:r3.e=0:=Qm9 (s:=[41]) h0;obtain⟨k1,k2⟩:=QuE hk' hF' m [(F q).1] (F q).2 (hk' q hg').1 (λh=>by simp only[Qai,hF' q hg' h]; rfl) l r3 hq h3;rw[QcJ];exact⟨by rw[k2,<- hm.1]; simp; omega,.inr rfl,.inr rfl,.inl hm.2,by decide,by decide,k1⟩
theorem Fi.fac (hT:∀ t∈c.ts,t.gd) (hd:d<=40) (hkF:∀ d',d=d'+1->Kp c d' F) (hF:∀ d',d=d'+1->Fi c d' F) (hG:∀ d',d=d'+1->Fi c d' G):Fi c d (QC c F G):=λr hg h0=>by
 unfold QC at h0 ⊢;split at h0
 . rename_i he; exact absurd h0 he
 rename_i he;rw[Zq he];split at h0
 . rename_i hf;rw[Zr hf];have hf':=hf;unfold QV at hf';obtain⟨_,hlt,hx⟩:=QcV hf';simp only[Va,Zs,VL,ZB]at hx;have hw:(QX c r).1=c.ts[r.a].tx:=by
    unfold QX;rw[Zr hf,Vy,Ve hlt]; rfl
   rw[QcJ];refine⟨rfl,.inr rfl,.inl rfl,.inr ?_,by decide,by decide,by rw[Qai]⟩;rw[hw];exact Qzb ((hT _ (Vp hlt)).1 hx.1) hx.2
 rename_i hf;rw[Zq hf];split at h0
 . rename_i hp;rw[Zr hp];split at h0
   . rename_i he; exact absurd h0 he
   . rename_i he;rw[Zq he];obtain⟨d',hd',hg'⟩:=(QfU hd hg).2.2 (by simpa using he);exact QpS (.inl rfl) (hG d' hd' _ hg' h0)
 rename_i hp;rw[Zq hp];split at h0
 . rename_i hp2;rw[Zr hp2];split at h0
   . rename_i he; exact absurd h0 he
   . rename_i he;rw[Zq he];obtain⟨d',hd',hg'⟩:=(QfU hd hg).2.2 (by simpa using he);exact hF d' hd' _ hg' (Qm9 (s:=[41]) h0)
 rename_i hp2;rw[Zq hp2];split at h0
 . rename_i w hw;have hm:((w.2.2+1:Nat):Int)=opN w.2.1/\w.2.1≠2:=by
    have:=Y5 hw;simp only[Qan,Vd,Vu,Zw]at this;rcases this with rfl|rfl|rfl<;>decide
   exact Fi.call hd hm hkF hF r hg h0
 . have hn:Qbb c r=true:=by
    by_cases hn:Qbb c r=true
    . exact hn
    . exfalso;simp only at h0;unfold nmR at h0;rw[Zq hn]at h0;exact Qhl (by decide) r h0
   have hn':=hn;unfold Qbb at hn';obtain⟨_,hlt,hx⟩:=QcV hn';have hv:(nmR c r).1=c.ts[r.a].n:=by
    unfold nmR;rw[Zr hn,Vy,Ve hlt]; rfl
   obtain⟨b1,b2⟩:=(hT _ (Vp hlt)).2 (by simpa using hx);rw[QcJ];exact⟨rfl,.inl rfl,.inr rfl,.inl (by decide),by rw[hv]; exact b1,by rw[hv]; exact b2,by rw[Qai]⟩
theorem Fi.lv (hT:∀ t∈c.ts,t.gd):∀ d:Nat,d<=40->Fi c d (lv c d).fac/\Fi c d (lv c d).nt/\Fi c d (QaT c (lv c d)):=by
 have key:∀ d O A N,d<=40->(∀ d',d=d'+1->Kp c d' O)->(∀ d',d=d'+1->Fi c d' O)->(∀ d',d=d'+1->Fi c d' A)->(∀ d',d=d'+1->Fi c d' N)->Kp c d (lvS c O A N).fac->Kp c d (lvS c O A N).nt ->
  Fi c d (lvS c O A N).fac/\Fi c d (lvS c O A N).nt/\Fi c d (QaT c (lvS c O A N)):=by
  intro d O A N hd k1 h1 h2 h3 kf kn;have f1:Fi c d (lvS c O A N).fac:=Fi.fac hT hd k1 h1 h2;have f2:Fi c d (lvS c O A N).nt:=Fi.nt hd (Fi.cmp (QcS (QcS kf)) (Fi.bin (by decide) (QcS kf) (Fi.bin (by decide) kf f1))) h3;exact⟨f1,f2,Fi.bin (by decide) (QcS kn) (Fi.bin (by decide) kn f2)⟩
 intro d
 induction d with
 |zero=>intro hd; exact key 0 _ _ _ hd (λ_ h=>by cases h) (λ_ h=>by cases h) (λ_ h=>by cases h) (λ_ h=>by cases h) (QfP c 0 hd).1 (QfP c 0 hd).2.1
 |succ d ih =>
  intro hd;have i:=ih (by omega);have e:∀ {P:Nat->Prop},P d->∀ d',d+1=d'+1->P d':=λhp d' h=>by
   have:d=d':=by omega
   exact this ▸ hp
  exact key (d+1) _ _ _ hd (e (P:=λd'=>Kp c d' _) (QfP c d (by omega)).2.2) (e (P:=λd'=>Fi c d' _) i.2.2) (e (P:=λd'=>Fi c d' _) i.1) (e (P:=λd'=>Fi c d' _) i.2.1) (QfP c (d+1) hd).1 (QfP c (d+1) hd).2.1
end
theorem Qwy {c:Cx} (h0:(Qeb c).2.1=0):(au c ⟨0,0,0,0⟩).2.e=0/\(Qeb c).1=(au c ⟨0,0,0,0⟩).1:=by
 unfold Qeb at h0 ⊢;simp only at h0 ⊢;by_cases ha:(au c ⟨0,0,0,0⟩).2.a<c.ts.length
 . exfalso;rw[Zr ha]at h0;rw[Zr (Qhl (by decide) _)]at h0;exact Qhl (e:=11) (by decide) _ h0
 . rw[Zq ha]at h0 ⊢;by_cases he:(au c ⟨0,0,0,0⟩).2.e≠0
   . rw[Zr he]at h0; exact absurd h0 he
   . rw[Zq he];exact⟨by simpa using he,rfl⟩
theorem Qun {l:ZG} (h0:(Qz l).2.1=0):QaG (Qz l).1=true:=by
 unfold Qz at h0 ⊢;split at h0
 . rename_i h; exact absurd h0 h
 . rename_i h;rw[Zq h];obtain⟨h1,h2⟩:=Qwy h0;rw[h2];exact(Fi.lv (QvM l) 40 (by decide)).2.2 ⟨0,0,0,0⟩ ⟨V5 _,.inr rfl⟩ h1
structure WOk (W:Ex->Nat) (K b:Nat):Prop where
 z:W zE<=K
 nm:∀ nm p,W (.mk 2 0 nm [] p)<=K+b*nm.length
 num:∀ n p,W (.mk 1 n [] [] p)<=K
 op:∀ op l p,l.length<=3->W (.mk op 0 [] l p)<=(l.map W).sum+K
structure TwOk (c:Cx) (K b:Nat) (tw:Nat->Nat):Prop where
 mono:∀ i,tw i<=tw (i+1)
 tok:∀ i (h:i<c.ts.length),tw i+2*K+b*c.ts[i].tx.length<=tw (i+1)
section
variable {c:Cx} {W:Ex->Nat} {K:Nat} {tw:Nat->Nat} {F G:Rd->Ex×Rd}
def Wt (W:Ex->Nat) (K:Nat) (tw:Nat->Nat) (F:Rd->Ex×Rd):Prop:=∀ r,W (F r).1+tw r.a<=K+tw (F r).2.a/\tw r.a<=tw (F r).2.a
variable {b:Nat} (hW:WOk W K b) (hT:TwOk c K b tw)
include hT
theorem Qkb (e:Int) (r:Rd):tw (Qg c e r).a=tw r.a:=by unfold Qg; split<;>rfl
theorem Qjv (s:ZG) (r:Rd):tw r.a<=tw (Qj c s r).2.a/\(Qd c s r=true->tw r.a+2*K<=tw (Qj c s r).2.a):=by
 unfold Qj
 cases hp:Qd c s r with
 |true =>
  have:=hT.tok r.a (QaP hp);refine⟨hT.mono _,λ_ => ?_⟩;show _<=tw (r.a+1);omega
 |false=>exact⟨V0 (Qkb hT 11 r).symm,λh=>by cases h⟩
theorem QkM (s:ZG) (r:Rd):tw r.a<=tw (QA c s r).2.a/\((QA c s r).2.e=0->tw r.a+2*K<=tw (QA c s r).2.a):=by
 unfold QA;generalize hq:av (if Qd c s r=true/\r.v=40 then Qg c 5 r else r)=q;have ha:tw q.a=tw r.a:=by
  rw[<-hq];split
  . exact Qkb hT 5 r
  . rfl
 obtain⟨h1,h2⟩:=Qjv hT s q;rw[ha]at h1 h2;refine⟨h1,λh=>h2 ?_⟩;unfold Qj at h;by_cases hp:Qd c s q=true
 . exact hp
 . rw[Vm]at hp;rw[hp]at h;exact absurd h (Qhl (by decide) q)
theorem QzS (r:Rd):tw r.a<=tw (QX c r).2.a/\b*(QX c r).1.length+tw r.a<=tw (QX c r).2.a:=by
 unfold QX;split
 . rename_i hp;obtain⟨_,hlt,_⟩:=QcV hp;have:=hT.tok r.a hlt;refine⟨hT.mono _,?_⟩;show b*(c.ts.getD r.a ⟨0,[],0,0⟩).tx.length+tw r.a<=tw (r.a+1);rw[Vy,Ve hlt];simp only[V8];omega
 . rw[Qkb hT]; simp
theorem QB4 (r:Rd):tw r.a<=tw (nmR c r).2.a:=by
 unfold nmR;split
 . exact hT.mono _
 . rw[Qkb hT]; exact Vb _
include hW
theorem QsE {aa:List (ZG×Int)} (hF:Wt W K tw F):∀ (n:Nat) (e:Ex) (r:Rd) (t0:Nat),W e+t0<=K+tw r.a->t0<=tw r.a ->
 W (Qa4 c aa F n e r).1+t0<=K+tw (Qa4 c aa F n e r).2.a/\t0<=tw (Qa4 c aa F n e r).2.a
 |0,e,r,t0,h1,h2=>⟨h1,h2⟩
 |n+1,e,r,t0,h1,h2=>by
  rw[Qa4];split
  . rename_i op ho;have ht:=hT.tok r.a (QdY ho).2;obtain⟨f1,f2⟩:=hF (Qa r);have ha:(Qa r).a=r.a+1:=rfl;rw[ha]at f1 f2;have hw:=hW.op op [e,(F (Qa r)).1] (Qm c r) (by simp);simp only[Vl,VM,VY,Yu]at hw;exact QsE hF n _ _ t0 (by omega) (by omega)
  . exact⟨h1,h2⟩
theorem Wt.bin {aa:List (ZG×Int)} (hF:Wt W K tw F):Wt W K tw (Q0 c aa F):=λr=>by
 obtain⟨h1,h2⟩:=hF r;exact QsE hW hT hF _ _ _ _ h1 h2
theorem Wt.cmp (hF:Wt W K tw F):Wt W K tw (Qaz c F):=λr=>by
 obtain⟨h1,h2⟩:=hF r;unfold Qaz;split
 . rename_i op ho;have ht:=hT.tok (F r).2.a (QdY ho).2;obtain⟨f1,f2⟩:=hF (Qa (F r).2);have ha:(Qa (F r).2).a=(F r).2.a+1:=rfl;rw[ha]at f1 f2;have hw:=hW.op op [(F r).1,(F (Qa (F r).2)).1] (Qm c (F r).2) (by simp);simp only[Vl,VM,VY,Yu]at hw;exact⟨by simp only; omega,by simp only; omega⟩
 . exact⟨h1,h2⟩
theorem Wt.nt (hF:Wt W K tw F) (hG:Wt W K tw G):Wt W K tw (Qal c F G):=λr=>by
 unfold Qal;split
 . obtain⟨o1,o2⟩:=QkM hT [110,111,116] r;split
   . exact⟨by have:=hW.z; simp only; omega,o1⟩
   . rename_i ho;have o3:=o2 (by simpa using ho);obtain⟨f1,f2⟩:=hG (QA c [110,111,116] r).2;have hw:=hW.op 4 [(G (QA c [110,111,116] r).2).1] (QA c [110,111,116] r).1 (by simp);simp only[Vl,VM,VY,Yu]at hw;have ha:(dnR (G (QA c [110,111,116] r).2).2).a=(G (QA c [110,111,116] r).2).2.a:=rfl;simp only[ha];exact⟨by omega,by omega⟩
 . exact hF r
theorem Qrr (hF:Wt W K tw F):∀ (m:Nat) (l:List Ex) (r:Rd),tw r.a<=tw (QP c F m l r).2.a /\
 ∀ l',(QP c F m l r).1=some l'->(l'.map W).sum+tw r.a+m*K<=(l.map W).sum+tw (QP c F m l r).2.a
 |0,l,r=>⟨Vb _,λl' h=>by simp only[QP,Option.some.injEq]at h; subst h; simp[QP]⟩
 |m+1,l,r=>by
  rw[QP];obtain⟨t1,t2⟩:=Qjv hT [44] r;split
  . exact⟨t1,λl' h=>by cases h⟩
  . rename_i hz;have hp:Qd c [44] r=true:=by
     by_cases hp:Qd c [44] r=true
     . exact hp
     . exfalso;apply hz;unfold Qj;rw[Vm]at hp;rw[hp]; exact Qhl (by decide) r
    have t3:=t2 hp;obtain⟨f1,f2⟩:=hF (Qj c [44] r).2;obtain⟨a1,a2⟩:=Qrr hF m (l++[(F (Qj c [44] r).2).1]) (F (Qj c [44] r).2).2;refine⟨by omega,λl' h => ?_⟩;have:=a2 l' h;simp only[Yt,Vl,VM,List.sum_append,VY,Yu]at this;rw[V9];omega
theorem Wt.call {s:ZG} {op p:Int} {m:Nat} (hm:m<=2) (hF:Wt W K tw F):Wt W K tw (Qcm c F s op m p):=λr=>by
 unfold Qcm;simp only;obtain⟨t1,_⟩:=Qjv hT s r;obtain⟨o1,o2⟩:=QkM hT [40] (Qj c s r).2;split
 . exact⟨by have:=hW.z; simp only; omega,by simp only; omega⟩
 . rename_i ho;have o3:=o2 (by simpa using ho);generalize (QA c [40] (Qj c s r).2).2=q at *;obtain⟨f1,f2⟩:=hF q;obtain⟨a1,a2⟩:=Qrr hW hT hF m [(F q).1] (F q).2;split
   . rename_i r3 hg;rw[hg]at a1;exact⟨by have:=hW.z; simp only at a1 ⊢; omega,by simp only at a1 ⊢; omega⟩
   . rename_i l r3 hg;rw[hg]at a1 a2;simp only at a1 a2 ⊢;have hlen:l.length<=3:=by
      have key:∀ (m:Nat) (acc:List Ex) (r r3:Rd) (l:List Ex),QP c F m acc r=(some l,r3)->l.length=acc.length+m:=by
       intro m
       induction m with
       |zero=>intro acc r r3 l h; simp only[QP,Prod.mk.injEq,Option.some.injEq]at h; rw[<-h.1]; rfl
       |succ m ih =>
        intro acc r r3 l h;rw[QP]at h;split at h
        . cases h
        . have:=ih _ _ _ _ h; simp at this; omega
      have:=key m _ _ _ _ hg;simp at this; omega
     have hw:=hW.op op l p hlen;obtain⟨u1,u2⟩:=Qjv hT [41] r3;have ha:(dnR (Qj c [41] r3).2).a=(Qj c [41] r3).2.a:=rfl;rw[ha];have hsum:(l.map W).sum+tw q.a+m*K<=(K+tw r3.a):=by
      have:=a2 l rfl;simp only[Vl,VM,VY,Yu]at this;omega
     have hmk:0<=m*K:=V5 _;exact⟨by omega,by omega⟩
theorem Wt.fac (hF:Wt W K tw F) (hG:Wt W K tw G):Wt W K tw (QC c F G):=λr=>by
 have hz:=hW.z;unfold QC;split
 . exact⟨by simp only; omega,Vb _⟩
 split
 . obtain⟨w1,w2⟩:=QzS hT r;have:=hW.nm (QX c r).1 (Qm c r);exact⟨by simp only; omega,w1⟩
 split
 . obtain⟨o1,o2⟩:=QkM hT [45] r;split
   . exact⟨by simp only; omega,o1⟩
   . rename_i ho;have o3:=o2 (by simpa using ho);obtain⟨f1,f2⟩:=hG (QA c [45] r).2;have hw:=hW.op 3 [(G (QA c [45] r).2).1] (Qm c r) (by simp);simp only[Vl,VM,VY,Yu]at hw;have ha:(dnR (G (QA c [45] r).2).2).a=(G (QA c [45] r).2).2.a:=rfl;simp only[ha];exact⟨by omega,by omega⟩
 split
 . obtain⟨o1,o2⟩:=QkM hT [40] r;split
   . exact⟨by simp only; omega,o1⟩
   . obtain⟨f1,f2⟩:=hF (QA c [40] r).2;obtain⟨u1,_⟩:=Qjv hT [41] (F (QA c [40] r).2).2;have ha:(dnR (Qj c [41] (F (QA c [40] r).2).2).2).a=(Qj c [41] (F (QA c [40] r).2).2).2.a:=rfl;simp only[ha];exact⟨by omega,by omega⟩
 split
 . rename_i w hw;have hm:w.2.2<=2:=by
    have:=Y5 hw;simp only[Qan,Vd,Vu,Zw]at this;rcases this with rfl|rfl|rfl<;>decide
   exact Wt.call hW hT hm hF r
 . have:=hW.num (nmR c r).1 (Qm c r);have:=QB4 hT r;exact⟨by simp only; omega,by simpa using this⟩
theorem Wt.lv:∀ d:Nat,Wt W K tw (lv c d).fac/\Wt W K tw (lv c d).nt/\Wt W K tw (QaT c (lv c d)):=by
 have zz:Wt W K tw λr=>(zE,r):=λr=>⟨by have:=hW.z; simp only; omega,Vb _⟩;have key:∀ O A N,Wt W K tw O->Wt W K tw A->Wt W K tw N->Wt W K tw (lvS c O A N).fac/\Wt W K tw (lvS c O A N).nt/\Wt W K tw (QaT c (lvS c O A N)):=by
  intro O A N hO hA hN;have h1:Wt W K tw (lvS c O A N).fac:=Wt.fac hW hT hO hA;have h2:Wt W K tw (lvS c O A N).nt:=Wt.nt hW hT (Wt.cmp hW hT (Wt.bin hW hT (Wt.bin hW hT h1))) hN;exact⟨h1,h2,Wt.bin hW hT (Wt.bin hW hT h2)⟩
 intro d
 induction d with
 |zero=>exact key _ _ _ zz zz zz
 |succ d ih=>exact key _ _ _ ih.2.2 ih.1 ih.2.1
end
theorem QpY {W:Ex->Nat} {K b:Nat} (hW:WOk W K b) (l:ZG):W (Qz l).1<=K+((QB l).1.map λt=>2*K+b*t.tx.length).sum:=by
 have hz:=hW.z;unfold Qz;split
 . simp only; omega
 . unfold Qeb;simp only;have key:W (au ⟨(QB l).1,l.length⟩ ⟨0,0,0,0⟩).1<=K+((QB l).1.map λt=>2*K+b*t.tx.length).sum:=by
    let c:Cx:=⟨(QB l).1,l.length⟩
    let tw:Nat->Nat:=λi=>((c.ts.take i).map λt=>2*K+b*t.tx.length).sum
    have hT:TwOk c K b tw:=by
     have hs:∀ i (h:i<c.ts.length),tw (i+1)=tw i+(2*K+b*c.ts[i].tx.length):=by
      intro i h;show((c.ts.take (i+1)).map λt=>2*K+b*t.tx.length).sum=((c.ts.take i).map λt=>2*K+b*t.tx.length).sum+_;rw[<-Y6 h,Yt,List.sum_append];simp only[Vl,VM,VY,Yu,Yb]
     refine⟨λi => ?_,λi h=>by rw[hs i h]; omega⟩;by_cases h:i<c.ts.length
     . rw[hs i h]; omega
     . have e1:c.ts.take (i+1)=c.ts.take i:=by rw[VD (by omega),VD (by omega)]
       show tw i<=((c.ts.take (i+1)).map _).sum;rw[e1]; exact Vb _
    have h:=((Wt.lv hW hT 40).2.2 ⟨0,0,0,0⟩).1;have hle:∀ i,tw i<=(c.ts.map λt=>2*K+b*t.tx.length).sum:=by
     intro i;have:c.ts=c.ts.take i++c.ts.drop i:=(Ys i c.ts).symm;show((c.ts.take i).map _).sum<=_;conv=>rhs; rw[this]
     rw[Yt,List.sum_append]; omega
    have h2:=hle (au c ⟨0,0,0,0⟩).2.a;have h0:tw 0=0:=rfl;have h:W (au c ⟨0,0,0,0⟩).1+tw 0<=K+tw (au c ⟨0,0,0,0⟩).2.a:=h;show W (au c ⟨0,0,0,0⟩).1<=K+(c.ts.map λt=>2*K+b*t.tx.length).sum;omega
   generalize (if(au ⟨(QB l).1,l.length⟩ ⟨0,0,0,0⟩).2.a<(QB l).1.length then Qg ⟨(QB l).1,l.length⟩ 11 (au ⟨(QB l).1,l.length⟩ ⟨0,0,0,0⟩).2 else(au ⟨(QB l).1,l.length⟩ ⟨0,0,0,0⟩).2)=r;split
   . simp only; omega
   . exact key
theorem QAw {l:ZG} {p q:Nat} {t:Tok} (h:Qw l p=.tok t q):t.tx=cut l p q:=by
 unfold Qw at h;split at h
 . cases h
 . split at h
   . have:=(Qbz h).1; subst this; exact Qga h
   . split at h
     . have:=(Qbz h).1; subst this; exact Qga h
     . split at h
       . have:=(Qbz h).1; subst this; exact Qga h
       . split at h
         . cases h
         . have:=(Qbz h).1; subst this; exact Qga h
theorem QDz {l:ZG} {p q:Nat} (h:Qw l p=.skip q):p<=q:=by
 have key:∀ {k:Int} {q':Nat},QN l p k q'≠.skip q:=by intro k q' h; unfold QN at h; split at h<;>cases h
 unfold Qw at h;split at h
 . cases h; omega
 . split at h
   . exact absurd h key
   . split at h
     . exact absurd h key
     . split at h
       . exact absurd h key
       . split at h
         . cases h; omega
         . exact absurd h key
theorem Qm0 {l:ZG} (a b:Nat):∀ (n p:Nat),((Q4 (evs l n p)).map λt=>a+b*t.tx.length).sum<=(a+b)*(l.length-p)
 |0,p=>by simp[evs,Q4]
 |n+1,p=>by
  simp only[evs];split
  . rename_i hp;split
    . rename_i q hs;exact Vf (Qm0 (l:=l) a b n q) (YN _ (by have:=QDz hs; omega))
    . rename_i t q hs;have h1:=mkq hs hp;have h2:t.tx.length<=q-p:=by rw[QAw hs]; simp only[cut,Yp]; omega
      have h3:=Qm0 (l:=l) a b n q;rw[Q4,Vl,VY];have h4:a+b*t.tx.length<=(a+b)*(q-p):=by
       have:=YN b h2;have h5:a*1<=a*(q-p):=YN a (by omega);rw[V9]; omega
      have h6:(a+b)*(l.length-p)=(a+b)*(q-p)+(a+b)*(l.length-q):=by rw[<-Nat.mul_add]; congr 1; omega
      omega
    . simp[Q4]
  . simp[Q4]
theorem QtS {W:Ex->Nat} {K b:Nat} (hW:WOk W K b) (l:ZG):W (Qz l).1<=K+(2*K+b)*l.length:=by
 refine Vf (QpY hW l) (Nat.add_le_add_left ?_ K);unfold QB;split
 . simp
 . split
   . exact Qm0 (2*K) b _ 0
   . simp
def Qgo (e:Ex):Nat:=(al (aq e)).length
def QgQ (e:Ex):Nat:=(ak (aq e)).length
theorem QyD (op:Int):(Qdx op).length<=3:=by
 unfold Qdx
 repeat' split
 all_goals decide
theorem QvP (op:Int):(Qbt op).tx.length<=3:=by
 have h:∀ n,(Qja.getD n []).length<=3:=by
  intro n;rw[Vy]
  cases h:Qja[n]? with
  |none=>simp
  |some x =>
   have:∀ x∈Qja,x.length<=3:=by decide
   exact this x (Vw h)
 unfold Qbt;split<;>exact h _
theorem QiJ (k:Int) (x:List Pc):(ak (opP (k,x))).length<=(ak x).length+2/\(al (opP (k,x))).length<=(al x).length+2:=by
 by_cases hk:k=1\/k=2\/18<=k
 . rw[Qg8 hk]; omega
 . rw[Qi5 hk]; simp[ak,al,QaL,QaK,TK.tx]
theorem QkJ (s:ZG):(TK.wd s).tx=s:=rfl
theorem Qj9 (s:ZG):(TK.sg s).tx=s:=rfl
theorem QlU (n:Nat):(TK.nm n).tx=Qa6 n:=rfl
theorem QqC {op:Int} {l:List Ex} (hl:l.length<=3):Sz ((l.map QgQ).sum+5) ((l.map Qgo).sum+24) (shK op 0 [] (shL l)):=by
 have h1:=QyD op;have h2:=QvP op;have h3:=Qn4 0
 match l,hl with
 |[],_ =>
  unfold shK;repeat' split
  all_goals constructor<;>simp[ak,al,QkJ,Qj9,QlU,shL,lsP,ndP]<;>omega
 |[a],_ =>
  have a1:=QiJ a.op (aq a);unfold shK;repeat' split
  all_goals constructor<;>simp[ak,al,QaL,QaK,QkJ,Qj9,QlU,shL,lsP,ndP,Qgo,QgQ]<;>omega
 |[a,b],_ =>
  have a1:=QiJ a.op (aq a);have a2:=QiJ b.op (aq b);unfold shK;repeat' split
  all_goals constructor<;>simp[ak,al,QaL,QaK,QkJ,Qj9,QlU,shL,lsP,ndP,Qgo,QgQ]<;>omega
 |[a,b,d],_ =>
  have a1:=QiJ a.op (aq a);have a2:=QiJ b.op (aq b);unfold shK;repeat' split
  all_goals constructor<;>simp[ak,al,QaL,QaK,QkJ,Qj9,QlU,shL,lsP,ndP,Qgo,QgQ]<;>omega
theorem QBF:WOk Qgo 24 1 :=
 ⟨by decide,λnm p=>by simp[Qgo,aq,shK,al,TK.tx],λn p=>by have:=Qn4 n.toNat; simp[Qgo,aq,shK,al,TK.tx]; omega,λop l p hl=>by show(al (aq _)).length<=_; rw[aq]; exact(QqC hl).x⟩
theorem Qxm:WOk QgQ 5 0 :=
 ⟨by decide,λnm p=>by simp[QgQ,aq,shK,ak],λn p=>by simp[QgQ,aq,shK,ak],λop l p hl=>by show(ak (aq _)).length<=_; rw[aq]; exact(QqC hl).t⟩
theorem QAj {l:ZG} (hl:l.length<=300) (h0:(Qz l).2.1=0):(al (aq (Qz l).1)).length<=20000 /\
 ((Qz (al (aq (Qz l).1))).2.1=5\/((Qz (al (aq (Qz l).1))).2=(0,0)/\(Qz (al (aq (Qz l).1))).1.er=(Qz l).1.er)):=by
 have hf:=Qun h0;have w1:(al (aq (Qz l).1)).length<=24+49*l.length:=QtS QBF l;have w2:(ak (aq (Qz l).1)).length<=5+10*l.length:=QtS Qxm l;have hg:Qa8 (aq (Qz l).1):=by
  have:=(Quj _ hf [] trivial (by unfold saf; decide) (by unfold sg2; decide)).1
  rwa [VE]at this
 generalize (Qz l).1=e at *;refine⟨by omega,?_⟩;have hs:=Qru hg (by omega) (by omega);have hA:=Qtl hg hs;unfold Qz;rw[Zq (by rw[hs]; simp)];generalize (al (aq e)).length=en at *;generalize (QB (al (aq e))).1=ts at *;have hst:Sta ⟨ts,en⟩ 40 ⟨0,0,0,0⟩ (ak (aq e)++[]):=by
  refine⟨rfl,?_,rfl,by decide⟩;unfold Rem;rw[Yr,VE]; exact hA
 have hb:=((Qtj (c:=⟨ts,en⟩) e hf) 40).2 ⟨0,0,0,0⟩ [] hst (by refine⟨?_,?_,?_,?_,?_⟩<;>intro o _<;>rfl)
 unfold Qeb;simp only;have hb:(au ⟨ts,en⟩ ⟨0,0,0,0⟩).2.e=5\/(Sta ⟨ts,en⟩ 40 (au ⟨ts,en⟩ ⟨0,0,0,0⟩).2 []/\(au ⟨ts,en⟩ ⟨0,0,0,0⟩).1.er=e.er):=hb;generalize au ⟨ts,en⟩ ⟨0,0,0,0⟩=q at *;rcases hb with h5|⟨h6,h7⟩
 . left;have:∀ r:Rd,(if q.2.a<ts.length then Qg ⟨ts,en⟩ 11 q.2 else q.2)=r->r.e=5:=by
    intro r hr;subst hr;split
    . unfold Qg; rw[Zq (by rw[h5]; decide)]; exact h5
    . exact h5
   have h8:=this _ rfl;rw[Zr (by rw[h8]; decide)]; exact h8
 . right;have ha:¬ q.2.a<ts.length:=by have:=h6.rem.end; exact Nat.not_lt.2 this
   rw[Zq ha,Zq (by rw[h6.e]; simp)];exact⟨rfl,h7⟩
theorem Qwn (s:Nat×GX):Qhz (Qgi s)=Qbc true s:=rfl
theorem QDO (w:Option GX):Qek Qev (whL w)=QfX true w:=by cases w<;>rfl
theorem Qnd (t:Nat):sN t≠[]:=by simp[sN]
theorem QwE (w:Option Nat):QiY (goN w)=Qc1 w:=by
 cases w with
 |none=>rfl
 |some t=>show QiY (sN t)=_; unfold QiY; rw[Zq (Qnd t)]; rfl
theorem QAB (k:Nat) (g:GA):Qd9 (QeB k g)=QdE true k g:=by
 unfold Qd9 QeB QdE;simp only[QDO,QwE,List.flatMap_map,Qwn];simp[pnl]
theorem Qr3:∀ (l:List GA) (k:Nat),(Qde k l).flatMap Qd9=QcD true k l
 |[],_=>rfl
 |g::r,k=>by rw[Qde,VO,QAB,Qr3 r,QcD]
theorem QB6 (w:Option GX) (p:Nat):aq (QfW w p)=QdG true w p:=by
 cases w with
 |none=>rfl
 |some g =>
  have h:aq (QfW (some g) p)=.t (.wd wIf)::.t (.sg [40])::((aq (cdE g)++([.t (.sg [44]),.b 32,pnU 0]++([.t (.sg [44]),.b 32,pnU p]++[])))++[.t (.sg [41])]):=rfl;rw[h];simp[QdG,cdQ]
theorem QEe (w x:Nat):Qek kwW (wgE w x)=Qcl w x:=by
 unfold wgE Qcl wgX;by_cases h0:w=0
 . subst h0; rfl
 by_cases h1:w=1
 . subst h1; rfl
 by_cases h2:w=2
 . subst h2; rfl
 rw[Zq h0,Zq h1,Zq h2,Zq (by omega)]; rfl
theorem QzP (s p:Nat) (b:List Pc):Qj7 (decide (s=0))++(Qkh (if s=1 then [(p:Int)]else [])++b)=Qbn s p++b:=by
 unfold Qbn;by_cases h0:s=0
 . subst h0; rfl
 by_cases h1:s=1
 . subst h1; rfl
 rw[Zq h0,Zq h1,Zq h1,decide_eq_false h0]; rfl
theorem QDQ (i:Nat) (g:GS):QdF (QeD i g)=[pw (sN i),ps [58],pb]++Qen true g:=by
 have hl:QeS (sN i)=[pw (sN i),ps [58],pb]:=by unfold QeS; rw[Zq (Qnd i)]
 cases g with
 |deal x r w s p =>
  have h:QdF (QeD i (.deal x r w s p))=QeS (sN i)++(.t (.wd kwD)::.b 32::.t (.wd (vN x))::.b 32::.t (.wd kwI)::.b 32::.t (.nm (loV r))::.b 32::.t (.sg [46,46])::.b 32::.t (.nm (hiV r))::(Qek kwW (wgE w x)++(Qj7 (decide (s=0))++(Qkh (if s=1 then [(p:Int)]else [])++[.t (.sg [59]),.b 10])))):=rfl;rw[h,hl,QEe,QzP];simp[Qen,Qfa,pnl]
 |turn w p acts =>
  have h:QdF (QeD i (.turn w p acts))=QeS (sN i)++(.t (.wd kwT)::.b 32::(aq (QfW w p)++(.b 32::.t (.sg [123])::.b 10::((Qde 0 acts).flatMap Qd9++[.t (.sg [125]),.b 10])))):=rfl;rw[h,hl,QB6,Qr3];simp[Qen,Qgj,pnl]
theorem QtP:∀ (l:List GS) (i:Nat),(Qc8 i l).flatMap QdF=Qcc true i l
 |[],_=>rfl
 |g::r,i=>by rw[Qc8,VO,QDQ,QtP r,Qcc]
theorem Qpl:∀ l:List GX,(shL (l.map exE)).flatMap (λy=>.t (.sg [44])::.b 32::y.2)=Qax true true l
 |[]=>rfl
 |g::r=>by
  rw[Vl,shL,VO,Qpl r,Qax]; rfl
theorem QDG (l:List GX):lsP (shL (l.map exE))=Qax true false l:=by
 cases l with
 |nil=>rfl
 |cons g r =>
  have:=Qpl r;rw[Vl,shL,lsP,this,Qax]; rfl
theorem QDP (n:Nat) (l:List GX):QdF (Qfs n l)=[pw (sN n),ps [58],pb,pw kwE,pb,ps [123],pb,pw kwP,pb]++(Qax true false l++[ps [59],pb,ps [125],pnl]):=by
 have hl:QeS (sN n)=[pw (sN n),ps [58],pb]:=by unfold QeS; rw[Zq (Qnd n)]
 have h:QdF (Qfs n l)=QeS (sN n)++(.t (.wd kwE)::.b 32::.t (.sg [123])::.b 32::.t (.wd kwP)::.b 32::(lsP (shL (l.map exE))++[.t (.sg [59]),.b 32,.t (.sg [125]),.b 10])):=rfl;rw[h,hl,QDG];simp[pnl]
theorem Qte:∀ (l:List Nat) (i:Nat),(Qdh i l).flatMap Qib=Qcz true i l
 |[],_=>rfl
 |c::r,i=>by
  have h:QjK (QeA c)=Qd7 true c:=by
   unfold QeA Qd7;by_cases h0:c=0
   . subst h0; rfl
   by_cases h1:c=1
   . subst h1; rfl
   by_cases h2:c=2
   . subst h2; rfl
   rw[Zq h0,Zq h1,Zq h2,Zq h0,Zq h1,Zq h2]; rfl
  rw[Qdh,VO,Qte r,Qcz];unfold Qib;simp only[h];simp[pnl]
theorem QAz (g:GR):QgD (Qgx g)=Qa9 true g:=by
 have h:(Qc8 0 g.stages++[Qfs g.stages.length g.pays]).flatMap QdF=Qcc true 0 g.stages++QdF (Qfs g.stages.length g.pays):=by
  rw[List.flatMap_append,QtP]; simp
 unfold QgD Qa9 Qgx;simp only[Qte,h,QDP];simp[pnl]
theorem QqN (l:List Int) {r:Qy} (h:r.er=(Qgx (Qav l)).er) :
 Qdg r=(al (Qa9 true (Qav l)),0)/\(QR (al (Qa9 true (Qav l)))).2.1=0/\(QR (al (Qa9 true (Qav l)))).1.er=r.er:=by
 obtain⟨g1,g2⟩:=QqS true l;have hw:=Qjt l;have hz:=(Qof (bb:=true) hw).x;have hp:=Qy.prp_er h (Qt6 hw);have e:QgD r=Qa9 true (Qav l):=by rw[<-Qsj r,h,Qsj,QAz]
 have hr:Qby r []=al (Qa9 true (Qav l)):=by
  rw[QAx hp.fine [] (by rw[e]; simpa using hz),e]; rfl
 refine⟨?_,g1,by rw[g2,h]⟩;unfold Qdg;rw[hr,Zq (by omega),Zq (by rw[g1]; simp)]
section
variable {c:Cx}
theorem Qkt {aa:List (ZG×Int)} {F:Rd->Ex×Rd} {r r':Rd} {e:Ex} {L:List TK} (h:F r=(e,r')) (hs:Sta c 40 r' L) (hn:Qay aa L):Q0 c aa F r=(e,r'):=by
 unfold Q0;rw[h];exact QfO (hs.none hn) _
theorem QEj {r:Rd} {n:Nat} {L:List TK} (h:Sta c 40 r (.nm n::.sg [59]::L)):∃ e,au c r=(e,Qa r):=by
 have h1:=h.next
 have hfac:∀ o f,QC c o f r=(.mk 1 (nmR c r).1 [] [] (Qm c r),Qa r):=by
  intro o f;have hw:Qan.find? (λw=>Qd c w.1 r)=none:=by
   rw[Y9];intro x _;rw[h.peek]; simp[pk]
  unfold QC;rw[Zq (by rw[h.e]; simp),Zq (by rw[h.free]; simp[Qdy]),Zq (by rw[h.peek]; simp[pk]),Zq (by rw[h.peek]; simp[pk]),hw];simp only[];rw[h.numb.1]
 have no:∀ aa:List (ZG×Int),(aa.all λo=>decide (o.1≠[59]))=true->Qay aa (.sg [59]::L):=by
  intro aa ho o hm;have:=Vi.1 ho o hm;simp only[Zs]at this;simp only[pk,ZB];exact λe=>this e.symm
 refine⟨.mk 1 (nmR c r).1 [] [] (Qm c r),?_⟩;unfold au QaT;refine Qkt (Qkt ?_ h1 (no _ (by decide))) h1 (no _ (by decide));have hnt:∀ o f nt,Qal c (Qhw c (QC c o f)) nt r=(.mk 1 (nmR c r).1 [] [] (Qm c r),Qa r):=by
  intro o f nt;unfold Qal;rw[Zq (by rw[h.peek]; simp[pk])];have hb:=Qkt (c:=c) (aa:=QaZ) (Qkt (aa:=QaV) (hfac o f) h1 (no _ (by decide))) h1 (no _ (by decide));unfold Qhw Qaz;rw[hb];simp only[];rw[h1.none (no _ (by decide))]
 exact hnt _ _ _
def eTk:List TK:=[.wd [101,110,100],.sg [123],.wd [112,97,121],.nm 0,.sg [59],.sg [125]]
def nx:Nat->Rd->Rd
 |0,r=>r
 |n+1,r=>nx n (Qa r)
theorem QtF {r:Rd} {L:List TK} (h:Sta c 40 r (eTk++L)):(QaE c (au c) r).2=nx 6 r/\Sta c 40 (nx 6 r) L:=by
 have h0:Sta c 40 r (.wd [101,110,100]::.sg [123]::.wd [112,97,121]::.nm 0::.sg [59]::.sg [125]::L):=h;have h1:=h0.next
 have h2:=h1.next
 have h3:=h2.next
 have h4:=h3.next
 have h5:=h4.next
 have h6:=h5.next
 refine⟨?_,h6⟩;have t1:Qj c [101,110,100] r=((Qj c [101,110,100] r).1,Qa r):=by rw[<-(h0.take (s:=[101,110,100]) rfl).1]
 have t2':t2 c [123] (Qa r)=Qa (Qa r):=(h1.take rfl).1;have t3:t2 c [112,97,121] (Qa (Qa r))=Qa (Qa (Qa r)):=(h2.take rfl).1;obtain⟨e,he⟩:=QEj h3;have hl:Qbg c r=([],r):=by
  unfold Qbg;rw[Zq (by rw[h0.free]; simp[Qdy]; decide)]
 have hx:QeQ c (au c) (Qa (Qa (Qa r)))=([e],Qa (Qa (Qa (Qa r)))):=by
  unfold QeQ;rw[he]
  cases c.ts.length with
  |zero=>rfl
  |succ n =>
   rw[Qcg,Zq (by rw[h4.peek]; simp[pk])]
 have t5:t2 c [59] (Qa (Qa (Qa (Qa r))))=Qa (Qa (Qa (Qa (Qa r)))):=(h4.take rfl).1;have t6:t2 c [125] (Qa (Qa (Qa (Qa (Qa r)))))=nx 6 r:=(h5.take rfl).1;unfold QaE;rw[hl];simp only[];rw[Zq (by rw[h0.peek]; simp[pk]),Zq (by rw[h0.peek]; simp[pk]),t1];simp only[];rw[t2',t3,hx];simp only[];rw[t5,t6]
def QbA:Nat->List TK
 |0=>[]
 |n+1=>eTk++QbA n
theorem QsG:∀ (m n:Nat) (l:List Qc) (r:Rd),Sta c 40 r (QbA m)->l.length+m<=100->m<n->(l≠[]\/0<m)->(QaS c (au c) n l r).2.e=0
 |0,n+1,l,r,h,hl,hn,h0=>by
  have hend:=h.rem.end;have hne:l≠[]:=h0.resolve_right (by omega);rw[QaS,Zq (by intro h2; rcases h2.2 with h3|h3; exact hne h3; omega)];exact h.e
 |m+1,n+1,l,r,h,hl,hn,h0=>by
  have hlt:r.a<c.ts.length:=by
   obtain⟨ha,_⟩:=(show Rem c r.a (.wd [101,110,100]::(eTk.tail++QbA m))from h.rem).lt;exact ha
  obtain⟨e1,e2⟩:=QtF (show Sta c 40 r (eTk++QbA m)from h);rw[QaS,Zr ⟨h.e,.inr hlt⟩];have hf:Qdd c l r=r:=by unfold Qdd; rw[Zq (by omega)]
  rw[hf,e1];exact QsG m n _ _ e2 (by simp; omega) (by omega) (.inl (by simp))
theorem QmF:∀ (n:Nat) (r:Rd),(nx n r).a=r.a+n
 |0,r=>rfl
 |n+1,r=>by rw[nx,QmF n]; simp[Qa]; omega
theorem QqY:∀ (k m n:Nat) (l:List Qc) (r:Rd),Sta c 40 r (QbA (k+1+m))->l.length+k=100->k<n->(QaS c (au c) n l r).2.e=12 /\
 (QaS c (au c) n l r).2.p=Qm c ⟨r.a+6*k,0,0,0⟩
 |0,m,n+1,l,r,h,hl,hn=>by
  have h':Sta c 40 r (.wd [101,110,100]::(eTk.tail++QbA m)):=by
   have:QbA (0+1+m)=.wd [101,110,100]::(eTk.tail++QbA m):=by rw[show 0+1+m=m+1 by omega]; rfl
   rwa [this]at h
  obtain⟨hlt,_⟩:=h'.rem.lt;rw[QaS,Zr ⟨h.e,.inr hlt⟩];have hf:Qdd c l r=Qg c 12 r:=by
   unfold Qdd;rw[Zr ⟨by omega,by rw[h'.peek [101,110,100]]; simp[pk]⟩]
  have hbad:(Qg c 12 r).e≠0:=by unfold Qg; rw[Zr h.e]; simp
  have hs:=QnP (c:=c) (QAP (c:=c)) _ hbad;rw[Qfp (by rw[hf,hs]; exact hbad),hf,hs];unfold Qg;rw[Zr h.e];exact⟨rfl,rfl⟩
 |k+1,m,n+1,l,r,h,hl,hn=>by
  have h':Sta c 40 r (eTk++QbA (k+1+m)):=by
   have:QbA (k+1+1+m)=eTk++QbA (k+1+m):=by rw[show k+1+1+m=(k+1+m)+1 by omega]; rfl
   rwa [this]at h
  have hlt:r.a<c.ts.length:=by
   obtain⟨ha,_⟩:=(show Rem c r.a (.wd [101,110,100]::(eTk.tail++QbA (k+1+m)))from h'.rem).lt;exact ha
  obtain⟨e1,e2⟩:=QtF h';rw[QaS,Zr ⟨h.e,.inr hlt⟩];have hf:Qdd c l r=r:=by unfold Qdd; rw[Zq (by omega)]
  rw[hf,e1];have:=QqY k m n (l++[(QaE c (au c) r).1]) (nx 6 r) e2 (by simp; omega) (by omega);rw[QmF]at this;rw[show r.a+6*(k+1)=r.a+6+6*k by omega];exact this
end
section
variable {a b:ZG}
theorem Qoq (hn:(35:UInt8)∉a):∀ (n m p:Nat),p<=a.length->a.length<=p+n->(a++32::b).length<=p+m ->
 evs (a++32::b) m p=evs a n p++bif bad (evs a n p)then []else evs (a++32::b) m a.length
 |n,0,p,h,h2,h3=>by simp at h3; omega
 |0,m+1,p,h,h2,h3=>by
  have e:p=a.length:=by omega
  subst e;simp[evs,bad]
 |n+1,m+1,p,h,h2,h3=>by
  by_cases hp:p<a.length
  . have hs:Qw (a++32::b) p=Qw a p:=Qxl (.inr rfl) hp (.inr (by
     intro h;apply hn;rw[Vy,Ve hp]at h;simp only[V8]at h;rw[<-h]; exact Vp hp))
    have hl:p<(a++32::b).length:=by simp; omega
    have hf:evs (a++32::b) (m+1) a.length=evs (a++32::b) m a.length:=Ql9 _ _ _ (by simp at h3 ⊢; omega) (by simp at h3 ⊢; omega);rw[hf]
    cases hst:Qw a p with
    |skip q =>
     have:=QrM hp hst;have e1:evs a (n+1) p=evs a n q:=by simp only[evs]; rw[Zr hp,hst]
     have e2:evs (a++32::b) (m+1) p=evs (a++32::b) m q:=by simp only[evs]; rw[Zr hl,hs,hst]
     rw[e1,e2];exact Qoq hn n m q (by omega) (by omega) (by simp at h3 ⊢; omega)
    |tok t q =>
     have:=mkq hst hp;have e1:evs a (n+1) p=.tok t::evs a n q:=by simp only[evs]; rw[Zr hp,hst]
     have e2:evs (a++32::b) (m+1) p=.tok t::evs (a++32::b) m q:=by simp only[evs]; rw[Zr hl,hs,hst]
     rw[e1,e2];simp only[Vv,bad];rw[Qoq hn n m q (by omega) (by omega) (by simp at h3 ⊢; omega)]
    |flt e =>
     have e1:evs a (n+1) p=[.flt e p]:=by simp only[evs]; rw[Zr hp,hst]
     have e2:evs (a++32::b) (m+1) p=[.flt e p]:=by simp only[evs]; rw[Zr hl,hs,hst]
     rw[e1,e2];simp[bad]
  . have e:p=a.length:=by omega
    subst e;have:evs a (n+1) a.length=[]:=by simp only[evs]; rw[Zq (by omega)]
    rw[this];simp[bad]
theorem Qrb (hn:(35:UInt8)∉a) (hb:bad (QaA a)=false):QaA (a++32::b)=QaA a++(QaA b).map (Ev.mv (a.length+1)):=by
 have h:=Qoq (a:=a) (b:=b) hn a.length (a++32::b).length 0 (by omega) (by omega) (by omega);have e:(a++32::b).length=(a.length+b.length)+1:=by simp; omega
 rw[e,QxG (by rfl) _ (by omega)]at h;rw[<-e]at h;have h2:QaA (a++32::b)=QaA a++bif bad (QaA a)then []else(QaA b).map (Ev.mv (a.length+1)):=h;rw[h2,hb]; rfl
end
theorem QuX (s:ZG):∀ n,rep s (n+1)=s++rep s n
 |0=>by simp[rep]
 |n+1=>by
  show rep s (n+1)++s=s++(rep s n++s);rw[QuX s n,Vr]
def en1:ZG:=[101,110,100,32,123,32,112,97,121,32,48,59,32,125]
def fr1:ZG:=[103,97,109,101,32,103,59,32,112,108,97,121,101,114,115,32,49,59]
def enQ:ZG:=[101,110,100,32,123,32,112,97,121,32,48,59,32,125,32]
def frQ:ZG:=[103,97,109,101,32,103,59,32,112,108,97,121,101,114,115,32,49,59,32]
def QgP:List Tok:=[⟨1,[101,110,100],0,0⟩,⟨3,[123],0,4⟩,⟨1,[112,97,121],0,6⟩,⟨2,[48],0,10⟩,⟨3,[59],0,11⟩,⟨3,[125],0,13⟩]
def Qd1:List Tok:=[⟨1,[103,97,109,101],0,0⟩,⟨1,[103],0,5⟩,⟨3,[59],0,6⟩,⟨1,[112,108,97,121,101,114,115],0,8⟩,⟨2,[49],1,16⟩,⟨3,[59],0,17⟩]
theorem Qvb:QaA en1=QgP.map Ev.tok:=by kernel_rfl
theorem QsM:QaA fr1=Qd1.map Ev.tok:=by kernel_rfl
def Qcb:Nat->List Tok
 |0=>[]
 |n+1=>QgP++(Qcb n).map (Tok.mv · 15)
theorem Qus (d:Nat) (l:List Tok):(l.map Ev.tok).map (Ev.mv d)=(l.map (Tok.mv · d)).map Ev.tok:=by
 rw[YJ,YJ]; rfl
theorem QlQ:∀ l:List Tok,bad (l.map Ev.tok)=false
 |[]=>rfl
 |t::l=>by simp only[Vl,bad]; exact QlQ l
theorem Qov:∀ l:List Tok,Q4 (l.map Ev.tok)=l
 |[]=>rfl
 |t::l=>by simp only[Vl,Q4]; rw[Qov l]
theorem QtW:∀ n,QaA (rep enQ n)=(Qcb n).map Ev.tok
 |0=>rfl
 |n+1=>by
  have e:rep enQ (n+1)=en1++32::rep enQ n:=by rw[QuX]; rfl
  rw[e,Qrb (by decide) (by rw[Qvb]; exact QlQ _),Qvb,QtW n,Qcb,Yt];congr 1;exact Qus 15 _
theorem QrD (n:Nat):QaA (frQ++rep enQ n)=(Qd1++(Qcb n).map (Tok.mv · 19)).map Ev.tok:=by
 have e:frQ++rep enQ n=fr1++32::rep enQ n:=rfl;rw[e,Qrb (by decide) (by rw[QsM]; exact QlQ _),QsM,QtW n,Yt];congr 1;exact Qus 19 _
theorem QnR:∀ n,(Qcb n).length=6*n
 |0=>rfl
 |n+1=>by rw[Qcb,Vj,Yj,QnR n]; simp[QgP]; omega
theorem QtC {n:Nat} (hn:n<=800):QB (frQ++rep enQ n)=(Qd1++(Qcb n).map (Tok.mv · 19),0,0):=by
 have hl:(frQ++rep enQ n).length<=20000:=by rw[Vj,Qbd]; simp[frQ,enQ]; omega
 rw[QvA hl (by rw[QrD,Qov,Vj,Yj,QnR]; simp[Qd1]; omega),QrD,QlQ,Qov];rfl
theorem QgR.mv {t:Tok} {k:TK} (h:QgR t k) (d:Nat):QgR (t.mv d) k:=by cases k<;>exact h
theorem QbK.mv {l:List Tok} {ks:List TK} (h:QbK l ks) (d:Nat):QbK (l.map (Tok.mv · d)) ks:=by
 induction h with
 |nil=>exact .nil
 |cons h1 _ ih=>exact .cons (h1.mv d) ih
theorem QbK.app {l l':List Tok} {ks ks':List TK} (h:QbK l ks) (h':QbK l' ks'):QbK (l++l') (ks++ks'):=by
 induction h with
 |nil=>exact h'
 |cons h1 _ ih=>exact .cons h1 ih
theorem QxH:QbK QgP eTk:=by
 refine .cons ⟨rfl,rfl⟩ (.cons ⟨rfl,rfl⟩ (.cons ⟨rfl,rfl⟩ (.cons ⟨rfl,rfl⟩ (.cons ⟨rfl,rfl⟩ (.cons ⟨rfl,rfl⟩ .nil)))))
def fTk:List TK:=[.wd [103,97,109,101],.wd [103],.sg [59],.wd [112,108,97,121,101,114,115],.nm 1,.sg [59]]
theorem QvQ:QbK Qd1 fTk:=by
 refine .cons ⟨rfl,rfl⟩ (.cons ⟨rfl,rfl⟩ (.cons ⟨rfl,rfl⟩ (.cons ⟨rfl,rfl⟩ (.cons ⟨rfl,rfl⟩ (.cons ⟨rfl,rfl⟩ .nil)))))
theorem Qt2:∀ n,QbK (Qcb n) (QbA n)
 |0=>.nil
 |n+1=>QxH.app ((Qt2 n).mv 15)
theorem QBn (n:Nat):QbK (Qd1++(Qcb n).map (Tok.mv · 19)) (fTk++QbA n):=QvQ.app ((Qt2 n).mv 19)
theorem Qvc:∀ (n k:Nat),k<n->((Qcb n)[6*k]?).map (·.p)=some (15*k)
 |0,k,h=>by omega
 |n+1,0,h=>rfl
 |n+1,k+1,h=>by
  rw[Qcb,Vk (by simp[QgP]; omega)];have:6*(k+1)-QgP.length=6*k:=by simp[QgP]; omega
  rw[this,Vs,Y4];have ih:=Qvc n k (by omega)
  cases hx:(Qcb n)[6*k]? with
  |none=>rw[hx]at ih; cases ih
  |some t =>
   rw[hx]at ih;simp only[VK,Option.some.injEq]at ih;simp only[VK,Function.comp,Tok.mv,ih,Option.some.injEq];omega
theorem QEt {α β:Type} {x:α×β} {b:β} (h:x.2=b):x=(x.1,b):=by rw[<-h]
section
variable {H:ZI}
theorem QiD {tx w:ZG} (hl:tx.length<4611686018427387904) (h1:(Qz tx).2=(0,0)) (h2:Qje (Qz tx).1=true) (h3:az (Qz tx).1 []=w) (h4:(Qz w).2=(0,0)) (hw:w.length<=20000)
 (hc:QcN (Qz tx).1<1000000000-1):Ok Tryz.prog 17 [st (B tx),st (B w)] H (.ret (bl true)) H:=by
 have hs:QcB (Qz tx).1=(w,0):=by
  unfold QcB;rw[h3,Zq (by omega),Zq (by rw[h4]; simp)]
 have h:=ok17 (H:=H) (w:=w) hl (QEt h1) (QmB h2) hc (by rw[h3]; omega) hs;simpa using h
end
theorem sw0 {H:ZI}:Ok Tryz.prog 17 [st (B [49,32,43,32,50,32,42,32,120]),st (B [49,32,43,32,40,50,32,42,32,120,41])] H (.ret (bl true)) H :=
 QiD (by decide) (by kernel_rfl) (by kernel_rfl) (by kernel_rfl) (by kernel_rfl) (by decide) (Zy (by kernel_rfl))
theorem sw1 {H:ZI}:Ok Tryz.prog 17 [st (B [110,111,116,32,97,32,61,61,32,98]),st (B [110,111,116,32,40,97,32,61,61,32,98,41])] H (.ret (bl true)) H :=
 QiD (by decide) (by kernel_rfl) (by kernel_rfl) (by kernel_rfl) (by kernel_rfl) (by decide) (Zy (by kernel_rfl))
theorem sw2 {H:ZI}:Ok Tryz.prog 17 [st (B [45,32,45,32,49]),st (B [45,32,40,45,32,49,41])] H (.ret (bl true)) H :=
 QiD (by decide) (by kernel_rfl) (by kernel_rfl) (by kernel_rfl) (by kernel_rfl) (by decide) (Zy (by kernel_rfl))
theorem sw3 {H:ZI}:Ok Tryz.prog 17 [st (B [105,102,40,97,32,60,32,49,44,32,50,44,32,109,105,110,40,51,44,32,98,41,41]),st (B [105,102,40,97,32,60,32,49,44,32,50,44,32,109,105,110,40,51,44,32,98,41,41])] H (.ret (bl true)) H :=
 QiD (by decide) (by kernel_rfl) (by kernel_rfl) (by kernel_rfl) (by kernel_rfl) (by decide) (Zy (by kernel_rfl))
theorem fw0 {H:ZI}:Ok Tryz.prog 18 [st (B [49,32,43]),V 11,V 3] H (.ret (bl true)) H:=Qid (by decide) (by kernel_rfl)
theorem fw1 {H:ZI}:Ok Tryz.prog 18 [st (B [97,32,60,32,98,32,60,32,99]),V 11,V 6] H (.ret (bl true)) H:=Qid (by decide) (by kernel_rfl)
theorem fw2 {H:ZI}:Ok Tryz.prog 18 [st (B [105,110]),V 11,V 0] H (.ret (bl true)) H:=Qid (by decide) (by kernel_rfl)
theorem fw3 {H:ZI}:Ok Tryz.prog 18 [st (B [49,32,50]),V 11,V 2] H (.ret (bl true)) H:=Qid (by decide) (by kernel_rfl)
theorem fw4 {H:ZI}:Ok Tryz.prog 18 [st (B (rep [40] 41++[49]++rep [41] 41)),V 5,V 40] H (.ret (bl true)) H:=Qid (by simp[Qbd]) (by kernel_rfl)
theorem sw4 {H:ZI}:Ok Tryz.prog 17 [st (B (rep [40] 40++[49]++rep [41] 40)),st (B [49])] H (.ret (bl true)) H :=
 QiD (by simp[Qbd]) (by kernel_rfl) (by kernel_rfl) (by kernel_rfl) (by kernel_rfl) (by decide) (Zy (by kernel_rfl))
def gR:Qy:=⟨[103],2,[],[⟨3,[],[],0,0,[],false,[],[],[],[.mk 1 1 [] [] 29,.mk 9 0 [] [.mk 1 0 [] [] 32,.mk 1 1 [] [] 36] 34],19⟩]⟩
theorem gp:QR [103,97,109,101,32,103,59,32,112,108,97,121,101,114,115,32,50,59,32,101,110,100,32,123,32,112,97,121,32,49,44,32,48,32,45,32,49,59,32,125]=(gR,0,0):=by kernel_rfl
def gW:ZG:=[103,97,109,101,32,103,59,10,112,108,97,121,101,114,115,32,50,59,10,101,110,100,32,123,32,112,97,121,32,49,44,32,48,32,45,32,49,59,32,125,10]
theorem gw:Qby gR []=gW:=by kernel_rfl
theorem gq:(QR gW).2=(0,0):=by kernel_rfl
theorem gn:QaR [103]=true:=by kernel_rfl
theorem gpay:QiV [.mk 1 1 [] [] 29,.mk 9 0 [] [.mk 1 0 [] [] 32,.mk 1 1 [] [] 36] 34]=true:=by kernel_rfl
theorem gprp:gR.prp:=by
 refine⟨⟨by simp[gR],gn⟩,⟨by simp[gR],by simp[gR]⟩,?_,by simp[gR],?_,by simp[gR],by simp[gR]⟩
 . intro v hv; simp[gR]at hv
 . intro x hx;simp only[gR,VX]at hx;subst hx;refine⟨.inl rfl,.inr (.inr ⟨rfl,?_⟩)⟩;refine⟨by simp,⟨by simp,Qg4.1 (QmP gpay),Zy (by kernel_rfl)⟩,rfl,rfl,rfl,rfl,rfl,rfl,rfl,rfl⟩
theorem gprn:Qdg gR=(gW,0):=by
 unfold Qdg;rw[gw,Zq (by decide),Zq (by rw[gq]; simp)]
theorem p1:(QR [103,97,109,101,32,103,59,32,112,108,97,121,101,114,115,32,50,59]).2=(11,18):=by kernel_rfl
theorem p2:(QR [103,97,109,101,32,103,97,109,101,59]).2=(11,5):=by kernel_rfl
theorem p3:(QR []).2=(11,0):=by kernel_rfl
def fr:ZG:=[103,97,109,101,32,103,59,32,112,108,97,121,101,114,115,32,49,59,32]
def en:ZG:=[101,110,100,32,123,32,112,97,121,32,48,59,32,125,32]
theorem pl:(QR (fr++[116,117,114,110,32,48,32,123,32]++rep [97,99,116,105,111,110,32,97,32,123,32,125,32] 10++[125,32]++en)).2=(0,0):=by kernel_rfl
theorem pm:(QR (fr++[116,117,114,110,32,48,32,123,32]++rep [97,99,116,105,111,110,32,97,32,123,32,125,32] 11++[125,32]++en)).2=(12,158):=by kernel_rfl
theorem po:(QR (fr++[101,110,100,32,123,32,112,97,121,32,48]++rep [44,48] 31++[59,32,125])).2=(0,0):=by kernel_rfl
theorem pp':(QR (fr++[101,110,100,32,123,32,112,97,121,32,48]++rep [44,48] 32++[59,32,125])).2=(12,93):=by kernel_rfl
theorem pn:(QR ([103,97,109,101,32,103,59,32,112,108,97,121,101,114,115,32,49,59,32]++rep [118,97,114,32,97,32,61,32,49,59,32] 41++[101,110,100,32,123,32,112,97,121,32,48,59,32,125,32])).2=(12,463):=by kernel_rfl
end Go.Proofs.YtmkdpmfhlfhjkaaGreatDoor
namespace Go.Proofs.YtmkdpmfhlfhjkaaGreatDoor
open Go.Ab Go.ChangeShapes Go.WideShapes Go.ChangeAt Go.RowKit
def laid3 : List (String × DataW Unit) := [("math/bits.deBruijn32tab", Rows.laid_math_bits_deBruijn32tab), ("math/bits.deBruijn64tab", Rows.laid_math_bits_deBruijn64tab), ("internal/strconv.uint64pow10", Rows.laid_internal_strconv_uint64pow10), ("errors.errorType", Rows.laid_errors_errorType), ("parlour/token.blanks", Rows.laid_parlour_token_blanks), ("parlour/token.signs", Rows.laid_parlour_token_signs)]
theorem own:ownKnob Tryz.prog.godebug=none:=by kernel_rfl
theorem laidOut:laidOutB Tryz.prog=true:=by kernel_rfl
theorem gB : Tryz.prog.globalNamed "parlour/token.blanks" = some 0 := by kernel_rfl
theorem gS : Tryz.prog.globalNamed "parlour/token.signs" = some 1 := by kernel_rfl
theorem gE : Tryz.prog.globalNamed "errors.errorType" = some 2 := by kernel_rfl
theorem gP : Tryz.prog.globalNamed "internal/strconv.uint64pow10" = some 3 := by kernel_rfl
theorem tP:(Tryz.prog.globals[3]?).map (·.type)=some 251:=by kernel_rfl
theorem uP:Tryz.prog.underlying 251=some (.array 20 242):=by kernel_rfl
theorem u64t:Tryz.prog.underlying 242=some (.int .u64):=by kernel_rfl
theorem pTab:(Rows.laid_internal_strconv_uint64pow10:DataW Unit)=Lib.tabData .u64 Lib.pow10Tab:=by kernel_rfl
theorem tB:(Tryz.prog.globals[0]?).map (·.type)=some 191:=by kernel_rfl
theorem tS:(Tryz.prog.globals[1]?).map (·.type)=some 192:=by kernel_rfl
theorem uB:Tryz.prog.underlying 191=some (.array 33 4):=by kernel_rfl
theorem uS:Tryz.prog.underlying 192=some (.array 126 4):=by kernel_rfl
theorem u4:Tryz.prog.underlying 4=some .bool:=by kernel_rfl
theorem rtE : (Tryz.prog.cutTypes.find? (·.1 == "internal/reflectlite.rtype")).map (·.2) = some 225 := by kernel_rfl
theorem size:Tryz.prog.types.size=285:=by kernel_rfl
theorem QvN:((List.range 285).filter λt=>Tryz.prog.rowNamed t [101,114,114,111,114])=[113]:=by kernel_rfl
theorem door_met (os:Os) (args:Array Value):laidMetH Tryz.prog laid3 ((World.doorLaid Tryz.prog 400 os).forCall (λ_ _=>0) ⟨#[],args,[]⟩).memory :=
 laidMetH_of_parts3 (fuel:=8) (laidMet_of_run' 8 (by kernel_rfl) (by kernel_rfl)) (by kernel_rfl) (by kernel_rfl)
theorem QsL {P:ZN} {W:ZO} {base:Nat} {sp:Nat->Bool} {held:Bool} {fuel n:Nat} {t e:ZM} {cs:ZK} {bs:List Bool} {p:List MemPlace} {enc:ZM×Value->Unit} (ht:P.underlying t=some (.array n e)) (he:P.underlying e=some .bool) (hc:P.cellsOf e=1) (hct:P.cellsOf t=n)
 (h:DataW.trod enc P W base sp held fuel t cs=some (.agg (bs.map λb=>.lit (.bool b)),p)):cs=bs.map Value.bool:=by
 obtain⟨xs,m,rfl,hx,hlen,hn,hel⟩:=DataW.trod_array ht h;simp only[Prod.mk.injEq,DataW.agg.injEq]at hx;have hbl:bs.length=n:=by have:=Zt List.length hx.1; simp at this; omega
 rw[hct]at hlen;refine List.ext_getElem (by simp; omega) λi h1 h2 => ?_;have hi:i<n:=by omega
 have h3:=hel i hi;have hxi:i<xs.length:=by omega
 rw[Ve hxi,hc,Nat.mul_one]at h3;obtain⟨b,e1,e2⟩:=DataW.trod_bool he h3;have e3:cs[i]=.bool b:=by
  rw[VN h1,List.take_succ_cons,Yx]at e1;exact(List.cons.inj e1).1
 have hbi:i<bs.length:=by omega
 have e4:(bs.map λb=>(DataW.lit (.bool b):DataW Unit))[i]'(by simpa using hbi)=(xs.map (·.1))[i]'(by simpa using hxi):=by
  simp only[hx.1]
 simp only[List.getElem_map,e2]at e4;have:bs[i]=b:=by simpa using e4
 rw[e3,List.getElem_map,this]
theorem gl_of {W:ZO} (h:laidMetH Tryz.prog laid3 W):(st0 W).GL:=by
 have h' : laidMet Tryz.prog [("math/bits.deBruijn32tab", Rows.laid_math_bits_deBruijn32tab), ("math/bits.deBruijn64tab", Rows.laid_math_bits_deBruijn64tab), ("internal/strconv.uint64pow10", Rows.laid_internal_strconv_uint64pow10), ("parlour/token.blanks", Rows.laid_parlour_token_blanks), ("parlour/token.signs", Rows.laid_parlour_token_signs)] W /\ handlesMet Tryz.prog [("errors.errorType", Rows.laid_errors_errorType)] W := h
 obtain⟨⟨ps,⟨ga,ta,csa,fa,pa,qa,hga,hta,hva,hda,⟨gb,tb,csb,fb,pb,qb,hgb,htb,hvb,hdb,⟨gc,tc,csc,fc,pc,qc,hgc,htc,hvc,hdc,⟨g0,t0,cs0,f0,p0,q0,hg0,ht0,hv0,hd0,⟨g1,t1,cs1,f1,p1,q1,hg1,ht1,hv1,hd1,_,_⟩,_⟩,_⟩,_⟩,_⟩,_,_⟩,hh⟩:=h';obtain rfl:=Option.some.inj (gB.symm.trans hg0);obtain rfl:=Option.some.inj (gS.symm.trans hg1);obtain rfl:=Option.some.inj (tB.symm.trans ht0);obtain rfl:=Option.some.inj (tS.symm.trans ht1);have b0:cs0.toList=QgY.map Value.bool:=QsL (bs:=QgY) uB u4 (by kernel_rfl) (by kernel_rfl) hd0;have b1:cs1.toList=Qhp.map Value.bool:=QsL (bs:=Qhp) uS u4 (by kernel_rfl) (by kernel_rfl) hd1;obtain⟨name,u,ty,e1,e2,e3,e4,e5⟩:=hh _ (VX.2 rfl);have en:name=[101,114,114,111,114]:=(Option.some.inj e1).symm;subst en;obtain rfl:=Option.some.inj (rtE.symm.trans e2);have hm:ty∈(List.range 285).filter λt=>Tryz.prog.rowNamed t [101,114,114,111,114]:=Yd.2 ⟨V3.2 (by rw[<-size]; exact e3),e4⟩;rw[QvN]at hm;obtain rfl:=VX.1 hm;have hh:typeHandle Tryz.prog 113=.pointer (some ⟨7,113,none⟩):=by kernel_rfl
 rw[hh]at e5;obtain rfl:=Option.some.inj (gP.symm.trans hgc);obtain rfl:=Option.some.inj (tP.symm.trans htc);have b3:csc.toList=Lib.pow10Tab.map λz=>Value.int .u64 z:=Lib.cells_of_tab (zs:=Lib.pow10Tab) uP u64t (by kernel_rfl) (by kernel_rfl) (by rw[<-pTab]; exact hdc);have shp:∀ (g:Nat) (nm:String) (cs:Array Value) (us:ZK),Tryz.prog.globalNamed nm=some g->W.var? Tryz.prog nm=some cs->cs.toList=us->∃ T,(st0 W).w.shape? g=some (T,us.length):=by
  intro g nm cs us h1 h2 h3;simp only[World.var?,h1,Option.bind_some]at h2;split at h2
  . rename_i cs' T f hh
    cases h2
    refine⟨T,?_⟩;show W.shape? g=_;unfold World.shape?;rw[hh,<- h3];simp
  . cases h2
 have key:∀ (g:Nat) (nm:String) (cs:Array Value) (us:ZK),Tryz.prog.globalNamed nm=some g->W.var? Tryz.prog nm=some cs->cs.toList=us->us.all Qlh=true->(st0 W).Imm ⟨g,0,none⟩ us:=by
  intro g nm cs us h1 h2 h3 h4;refine⟨λj u hj => ?_,λ_=>rw0 W _,λ_ _=>.inr h4⟩;have:=World.var?_cell h1 h2 j;have e:((⟨g,0,none⟩:Addr).add j)=⟨g,j,none⟩:=by unfold Addr.add; split<;>simp_all
  rw[e];show W.cell? _=_;rw[this,<- YZ,h3]; exact hj
 intro g us hg
 match g,hg with
 |0,hg=>cases hg; exact⟨key 0 _ _ _ gB hv0 b0 (by decide),shp 0 _ _ _ gB hv0 b0⟩
 |1,hg=>cases hg; exact⟨key 1 _ _ _ gS hv1 b1 (by decide),shp 1 _ _ _ gS hv1 b1⟩
 |2,hg=>cases hg; exact⟨key 2 _ _ _ gE e5 rfl rfl,shp 2 _ _ _ gE e5 rfl⟩
 |3,hg=>cases hg; exact⟨key 3 _ _ _ gP hvc b3 (by decide),shp 3 _ _ _ gP hvc b3⟩
end Go.Proofs.YtmkdpmfhlfhjkaaGreatDoor
namespace Go.Proofs.YtmkdpmfhlfhjkaaGreatDoor
open Go Go.Ab
theorem u9:Tryz.prog.underlying 9=some .string:=by kernel_rfl
theorem Qvt {d:Dt} (h:d.ty Tryz.prog 9):∃ s,d=.str s/\s.size<=reachBytes:=by
 cases d with
 |int k n=>have:=h.1; rw[u9]at this; cases this
 |bool b=>have h:Tryz.prog.underlying 9=_:=h; rw[u9]at h; cases h
 |str s=>exact⟨s,rfl,h.2⟩
 |sl l=>obtain⟨e,h,_⟩:=h; rw[u9]at h; cases h
 |agg l=>obtain⟨e,h,_⟩:=h; rw[u9]at h; cases h
end Go.Proofs.YtmkdpmfhlfhjkaaGreatDoor
namespace Go.Proofs.YtmkdpmfhlfhjkaaGreatDoor
open Go.Ab
section
variable {H:ZI}
theorem prs {l:ZG} {e p:Int} (hl:l.length<=20000) (h:(QR l).2=(e,p)):∃ c:ZJ,c.length=4/\QF c/\c.take 4=c/\c.drop 4=[]/\∀ H,Ok Tryz.prog 14 [st (B l)] H (.ret (.tup [.agg c,.agg [V e,V p]])) H:=by
 refine⟨(QR l).1.c,Qe9 _,Qfo _,Qfd _,Qlp _,λH => ?_⟩;have h14:=Qip (H:=H) hl;rw[h]at h14;exact h14
theorem gpS:∀ H,Ok Tryz.prog 14 [st (B [103,97,109,101,32,103,59,32,112,108,97,121,101,114,115,32,50,59,32,101,110,100,32,123,32,112,97,121,32,49,44,32,48,32,45,32,49,59,32,125])] H (.ret (.tup [.agg gR.c,.agg [V 0,V 0]])) H:=λH=>by
 have h14:=Qip (H:=H) (l:=[103,97,109,101,32,103,59,32,112,108,97,121,101,114,115,32,50,59,32,101,110,100,32,123,32,112,97,121,32,49,44,32,48,32,45,32,49,59,32,125]) (by decide);rw[gp]at h14;exact h14
theorem gpP:∀ H,Ok Tryz.prog 20 [.agg gR.c] H (.ret (.tup [st (B gW),V 0])) H:=λH=>by
 have h:=Qxz (H:=H) gprp (by decide) (by rw[gw]; decide);rw[gprn]at h;exact h
set_option maxHeartbeats 4000000 in
set_option maxRecDepth 8000 in
theorem law5 (pj:(QR (fr++rep en 100)).2=(0,0)) (pk:(QR (fr++rep en 101)).2=(12,1519)):Ok Tryz.prog 5 [] H (.ret (bl true)) H:=by
 have hD:=Qb1 (P:=Tryz.prog) hm;have gS:=gpS;have gP:=gpP;have k1:=Qe9 gR;have k2:=Qfo gR;have k3:=Qfd gR;generalize gR.c=cg at *;refine Qk9 hm Tryz.func5 c5 (by simp) λZ => ?_;rw[show i5=.seq (IC.nth 0 i5) (.seq (IC.nth 1 i5) (.seq (IC.nth 2 i5) (.seq (IC.nth 3 i5) (.seq (IC.nth 4 i5) (IC.tl 5 i5)))))from rfl];generalize ht:IC.tl 5 i5=t;refine WI.seq hD ?_;simp[IC.nth,i5];refine WI.seq hD ?_;simp;refine Qb sw0 ?_;simp;refine QL (r:=bl true) (λ_=>sw1) ?_;simp;refine QL (r:=bl true) (λ_=>sw2) ?_;simp;refine QL (r:=bl true) (λ_=>sw3) ?_;simp;refine WI.keep [1] ?_;refine WI.seq hD ?_;simp;refine Qb fw0 ?_;simp;refine QL (r:=bl true) (λ_=>fw1) ?_;simp;refine QL (r:=bl true) (λ_=>fw2) ?_;simp;refine QL (r:=bl true) (λ_=>fw3) ?_;simp;refine QL (r:=st (B (rep [40] 41))) (λ_=>Qd6 [40] (n:=41) (by decide) (by decide)) ?_;simp;rw[Qbd];refine⟨by decide,QL (r:=st (B (rep [41] 41))) (λ_=>Qd6 [41] (n:=41) (by decide) (by decide)) ?_⟩;simp;simp only[Qbd];refine⟨by decide,QL (r:=bl true) (λ_=>by have h:=λH=>fw4 (H:=H); simp only[Vr,Vv,VG]at h; exact h _) ?_⟩;simp;refine QL (r:=st (B (rep [40] 40))) (λ_=>Qd6 [40] (n:=40) (by decide) (by decide)) ?_;simp;rw[Qbd];refine⟨by decide,QL (r:=st (B (rep [41] 40))) (λ_=>Qd6 [41] (n:=40) (by decide) (by decide)) ?_⟩;simp;simp only[Qbd]
 refine⟨by decide,QL (r:=bl true) (λ_=>by have h:=λH=>sw4 (H:=H); simp only[Vr,Vv,VG]at h; exact h _) ?_⟩;simp;refine WI.keep [1,2] ?_;refine WI.seq hD ?_;simp;refine Qb (gS _) ?_;simp[k1];refine⟨k2,?_⟩;refine WI.keep [1,2,3,4] ?_;refine WI.seq hD ?_;simp[k1,k3];refine Qb (gP _) ?_;simp;refine WI.keep [1,2,4,5,6] ?_;subst ht;rw[show IC.tl 5 i5=.seq (IC.nth 5 i5) (.seq (IC.nth 6 i5) (.seq (IC.nth 7 i5) (.seq (IC.nth 8 i5) (IC.tl 9 i5))))from rfl];generalize ht:IC.tl 9 i5=t;clear gS gP;obtain⟨c1,a1,b1,d1,f1,g1⟩:=prs (l:=[103,97,109,101,32,103,59,32,112,108,97,121,101,114,115,32,50,59]) (by decide) p1;refine WI.seq hD ?_;simp[IC.nth,i5];refine Qb (g1 _) ?_;simp[a1];refine⟨b1,?_⟩;refine WI.keep [1,2,4,5,6,8] ?_;simp;obtain⟨c2,a2,b2,d2,f2,g2⟩:=prs (l:=[103,97,109,101,32,103,97,109,101,59]) (by decide) p2;refine WI.seq hD ?_;simp;refine Qb (g2 _) ?_;simp[a2];refine⟨b2,?_⟩;refine WI.keep [1,2,4,5,6,8,10] ?_;simp;obtain⟨c3,a3,b3,d3,f3,g3⟩:=prs (l:=[]) (by decide) p3;refine WI.seq hD ?_;simp;refine Qb (g3 _) ?_;simp[a3];refine⟨b3,?_⟩;refine WI.keep [1,2,4,5,6,8,10,12] ?_;simp;refine WI.seq hD ?_;simp[gW];refine WI.keep [1,2,13] ?_;simp;subst ht;rw[show IC.tl 9 i5=.seq (IC.nth 9 i5) (.seq (IC.nth 10 i5) (.seq (IC.nth 11 i5) (IC.tl 12 i5)))from rfl];generalize ht:IC.tl 12 i5=t;generalize hH1:H++[_,_,_,_,_,_,_,_]=H1;refine WI.seq hD ?_;simp[IC.nth,i5]
 obtain⟨c11,a11,b11,d11,f11,g11⟩:=prs (l:=103::97::109::101::32::103::59::32::112::108::97::121::101::114::115::32::49::59::32::rep [101,110,100,32,123,32,112,97,121,32,48,59,32,125,32] 100) (by simp[Qbd]) (by have h:=pj; simp only[fr,en,Vv,VG]at h; exact h);refine WI.seq hD ?_;simp;refine Qb (Qd6 [101,110,100,32,123,32,112,97,121,32,48,59,32,125,32] (n:=100) (by decide) (by decide)) ?_;simp;simp only[Qbd];refine⟨by decide,Qb (g11 _) ?_⟩;simp[a11];refine⟨b11,?_⟩;refine WI.keep [1,2,13,14,15,17] ?_;simp;obtain⟨c12,a12,b12,d12,f12,g12⟩:=prs (l:=103::97::109::101::32::103::59::32::112::108::97::121::101::114::115::32::49::59::32::rep [101,110,100,32,123,32,112,97,121,32,48,59,32,125,32] 101) (by simp[Qbd]) (by have h:=pk; simp only[fr,en,Vv,VG]at h; exact h);refine WI.seq hD ?_;simp;refine Qb (Qd6 [101,110,100,32,123,32,112,97,121,32,48,59,32,125,32] (n:=101) (by decide) (by decide)) ?_;simp;simp only[Qbd];refine⟨by decide,Qb (g12 _) ?_⟩;simp[a12];refine⟨b12,?_⟩;refine WI.keep [1,2,13,14,15,17,19] ?_;simp;subst ht;rw[show IC.tl 12 i5=.seq (IC.nth 12 i5) (.seq (IC.nth 13 i5) (.seq (IC.nth 14 i5) (.seq (IC.nth 15 i5) (.seq (IC.nth 16 i5) (.seq (IC.nth 17 i5) (IC.tl 18 i5))))))from rfl];generalize ht:IC.tl 18 i5=t
 obtain⟨c13,a13,b13,d13,f13,g13⟩:=prs (l:=103::97::109::101::32::103::59::32::112::108::97::121::101::114::115::32::49::59::32::116::117::114::110::32::48::32::123::32::(rep [97,99,116,105,111,110,32,97,32,123,32,125,32] 10++125::32::101::110::100::32::123::32::112::97::121::32::48::59::32::125::32::[])) (by simp[Qbd]) (by have h:=pl; simp only[fr,en,Vr,Vv,VG]at h; exact h);refine WI.seq hD ?_;simp[IC.nth,i5];refine Qb (Qd6 [97,99,116,105,111,110,32,97,32,123,32,125,32] (n:=10) (by decide) (by decide)) ?_;simp;simp only[Qbd];repeat (refine⟨by decide,?_⟩)
 refine Qb (g13 _) ?_;simp[a13];refine⟨b13,?_⟩;refine WI.keep [1,2,13,14,15,17,19,21] ?_;simp;obtain⟨c14,a14,b14,d14,f14,g14⟩:=prs (l:=103::97::109::101::32::103::59::32::112::108::97::121::101::114::115::32::49::59::32::116::117::114::110::32::48::32::123::32::(rep [97,99,116,105,111,110,32,97,32,123,32,125,32] 11++125::32::101::110::100::32::123::32::112::97::121::32::48::59::32::125::32::[])) (by simp[Qbd]) (by have h:=pm; simp only[fr,en,Vr,Vv,VG]at h; exact h);refine WI.seq hD ?_;simp;refine Qb (Qd6 [97,99,116,105,111,110,32,97,32,123,32,125,32] (n:=11) (by decide) (by decide)) ?_;simp;simp only[Qbd];repeat (refine⟨by decide,?_⟩)
 refine Qb (g14 _) ?_;simp[a14];refine⟨b14,?_⟩;refine WI.keep [1,2,13,14,15,17,19,21,23] ?_;simp;obtain⟨c15,a15,b15,d15,f15,g15⟩:=prs (l:=103::97::109::101::32::103::59::32::112::108::97::121::101::114::115::32::49::59::32::(rep [118,97,114,32,97,32,61,32,49,59,32] 41++101::110::100::32::123::32::112::97::121::32::48::59::32::125::32::[])) (by simp[Qbd]) (by have h:=pn; simp only[Vv,VG]at h; exact h);refine WI.seq hD ?_;simp;refine Qb (Qd6 [118,97,114,32,97,32,61,32,49,59,32] (n:=41) (by decide) (by decide)) ?_;simp;simp only[Qbd];repeat (refine⟨by decide,?_⟩)
 refine Qb (g15 _) ?_;simp[a15];refine⟨b15,?_⟩;refine WI.keep [1,2,13,14,15,17,19,21,23,25] ?_;simp;obtain⟨c16,a16,b16,d16,f16,g16⟩:=prs (l:=103::97::109::101::32::103::59::32::112::108::97::121::101::114::115::32::49::59::32::101::110::100::32::123::32::112::97::121::32::48::(rep [44,48] 31++59::32::125::[])) (by simp[Qbd]) (by have h:=po; simp only[fr,Vv,VG]at h; exact h);refine WI.seq hD ?_;simp;refine Qb (Qd6 [44,48] (n:=31) (by decide) (by decide)) ?_;simp;simp only[Qbd];repeat (refine⟨by decide,?_⟩)
 refine Qb (g16 _) ?_;simp[a16];refine⟨b16,?_⟩;refine WI.keep [1,2,13,14,15,17,19,21,23,25,27] ?_;simp;obtain⟨c17,a17,b17,d17,f17,g17⟩:=prs (l:=103::97::109::101::32::103::59::32::112::108::97::121::101::114::115::32::49::59::32::101::110::100::32::123::32::112::97::121::32::48::(rep [44,48] 32++59::32::125::[])) (by simp[Qbd]) (by have h:=pp'; simp only[fr,Vv,VG]at h; exact h);refine WI.seq hD ?_;simp;refine Qb (Qd6 [44,48] (n:=32) (by decide) (by decide)) ?_;simp;simp only[Qbd];repeat (refine⟨by decide,?_⟩)
 refine Qb (g17 _) ?_;simp[a17];refine⟨b17,?_⟩;refine WI.keep [1,2,13,14,15,17,19,21,23,25,27,29] ?_;simp;refine WI.seq hD ?_;simp;refine WI.keep [1,2,13,30] ?_;simp;subst ht;refine WI.of_X hD ?_;simp[IC.tl,i5,r5];refine Qb ok10 ?_;simp;subst hH1;simp only[Vr];exact Qq 3 Z rfl (by simp)
end
def cxE (n:Nat):Cx:=⟨Qd1++(Qcb n).map (Tok.mv · 19),(frQ++rep enQ n).length⟩
def rd0:Rd:=⟨0,0,0,0⟩
theorem sta0 (n:Nat):Sta (cxE n) 40 rd0 (fTk++QbA n):=⟨rfl,QBn n,by decide,by decide⟩
theorem QuA (n:Nat):(cxE n).ts.length=6+6*n:=by
 show(Qd1++(Qcb n).map (Tok.mv · 19)).length=_;rw[Vj,Yj,QnR]; simp[Qd1]
theorem Qqe {n:Nat} (hn:n<=800):Sta (cxE n) 40 (nx 6 rd0) (QbA n) /\
 (QR (frQ++rep enQ n)).2=if(QaS (cxE n) (au (cxE n)) (6+6*n+1) [] (nx 6 rd0)).2.e≠0 then((QaS (cxE n) (au (cxE n)) (6+6*n+1) [] (nx 6 rd0)).2.e,(QaS (cxE n) (au (cxE n)) (6+6*n+1) [] (nx 6 rd0)).2.p)else(0,0):=by
 have h0:Sta (cxE n) 40 rd0 (.wd [103,97,109,101]::.wd [103]::.sg [59]::.wd [112,108,97,121,101,114,115]::.nm 1::.sg [59]::QbA n):=sta0 n;have h1:=h0.next
 have h2:=h1.next
 have h3:=h2.next
 have h4:=h3.next
 have h5:=h4.next
 have h6:=h5.next
 refine⟨h6,?_⟩;have hc:(⟨(QB (frQ++rep enQ n)).1,(frQ++rep enQ n).length⟩:Cx)=cxE n:=by rw[QtC hn]; rfl
 have e0:¬ (QB (frQ++rep enQ n)).2.1≠0:=by rw[QtC hn]; simp
 have hl:=QuA n;unfold QR;rw[Zq e0,hc];generalize cxE n=c at *;have t1:t2 c [103,97,109,101] rd0=Qa rd0:=(h0.take rfl).1;have w1:QX c (Qa rd0)=([103],Qa (Qa rd0)):=(h1.word (by decide)).1;have t3:t2 c [59] (Qa (Qa rd0))=Qa (Qa (Qa rd0)):=(h2.take rfl).1;have t4:t2 c [112,108,97,121,101,114,115] (Qa (Qa (Qa rd0)))=Qa (Qa (Qa (Qa rd0))):=(h3.take rfl).1;have n5:nmR c (Qa (Qa (Qa (Qa rd0))))=(((1:Nat):Int),Qa (Qa (Qa (Qa (Qa rd0))))):=h4.numb.1;have t6:t2 c [59] (Qa (Qa (Qa (Qa (Qa rd0)))))=nx 6 rd0:=(h5.take rfl).1;have hv:∀ m,QbX c m [] (nx 6 rd0)=([],nx 6 rd0):=by
  intro m
  cases m with
  |zero=>rfl
  |succ m =>
   rw[QbX,Zq];rw[show Qd c [118,97,114] (nx 6 rd0)=pk (QbA n) [118,97,114]from h6.peek _]
   cases n with
   |zero=>simp[QbA,pk]
   |succ n=>simp[QbA,eTk,pk]
 unfold QhP;rw[show(⟨0,0,0,0⟩:Rd)=rd0 from rfl,t1,w1];simp only[];rw[t3,t4,n5];simp only[];rw[t6,hv,hl];simp only[];split<;>rfl
theorem pj:(QR (fr++rep en 100)).2=(0,0):=by
 obtain⟨h,e⟩:=Qqe (n:=100) (by decide);have h2:=QsG 100 (6+6*100+1) [] (nx 6 rd0) h (by simp) (by decide) (.inr (by decide));rw[Zq (by rw[h2]; simp)]at e;exact e
theorem pk':(QR (fr++rep en 101)).2=(12,1519):=by
 obtain⟨h,e⟩:=Qqe (n:=101) (by decide);obtain⟨h2,h3⟩:=QqY 100 0 (6+6*101+1) [] (nx 6 rd0) h (by simp) (by decide);rw[Zr (by rw[h2]; simp),h2,h3]at e;have hp:Qm (cxE 101) ⟨(nx 6 rd0).a+6*100,0,0,0⟩=1519:=by
  have hx:=Qvc 101 100 (by decide);have ha:(nx 6 rd0).a=6:=by rw[QmF]; rfl
  rw[ha];have hl:=QuA 101;unfold Qm;rw[ZD (by rw[hl]; simp)];have ht:(cxE 101).ts[6+6*100]? = ((Qcb 101)[6*100]?).map (Tok.mv · 19):=by
   show(Qd1++(Qcb 101).map (Tok.mv · 19))[6+6*100]? = _;rw[Vk (by simp[Qd1]),Vs];simp[Qd1]
  cases hz:(Qcb 101)[6*100]? with
  |none=>rw[hz]at hx; cases hx
  |some t =>
   rw[hz]at hx ht;simp only[VK,Option.some.injEq]at hx;simp only[VK]at ht;have:=(List.getElem?_eq_some_iff.1 ht).2;simp only[this,Tok.mv,hx];rfl
 rw[hp]at e;exact e
theorem QBe {H:ZI}:Ok Tryz.prog 5 [] H (.ret (bl true)) H:=law5 pj pk'
theorem Quh {l:ZG} (h:(QR l).2.1=0):(QR l).2=(0,0):=by
 unfold QR at h ⊢;by_cases hs:(QB l).2.1≠0
 . rw[Zr hs]at h; exact absurd h hs
 . rw[Zq hs]at h ⊢;unfold QhP at h ⊢;simp only at h ⊢;split at h
   . rename_i he; exact absurd h he
   . rename_i he; rw[Zq he]
theorem Qxk:WOk QcN 2 0:=by
 have hs:∀ l:List Ex,Qap l=(l.map QcN).sum+1:=by
  intro l
  induction l with
  |nil=>rfl
  |cons x r ih=>unfold Qap; rw[ih]; simp; omega
 refine⟨by decide,λnm p => ?_,λn p => ?_,λop l p _ => ?_⟩
 . show Qap []<=_; rw[Qap]; omega
 . show Qap []<=_; rw[Qap]; omega
 . show Qap l<=_; rw[hs]; omega
theorem Quk {α:Type} {f:α->Nat} {k:Nat}:∀ {l:List α},(∀ x∈l,f x<=k)->(l.map f).sum<=k*l.length
 |[],_=>by simp
 |x::r,h=>by
  have h1:=h x (by simp);have h2:=Quk λy hy=>h y (VW x hy);simp only[Vl,VY,Vh,Nat.mul_add,Nat.mul_one];omega
theorem QB3 (l:ZG):QcN (Qz l).1<=1000000:=by
 have h1:=QpY Qxk l;have h2:=Quk (f:=λt:Tok=>2*2+0*t.tx.length) (k:=4) (l:=(QB l).1) λt ht=>by simp
 have h3:=QnS l;have h4:4*(QB l).1.length<=4*20000:=YN _ h3;omega
theorem QBi {l:ZG} (h:(Qz l).2.1=0):(Qz l).2=(0,0):=by
 unfold Qz at h ⊢;by_cases hs:(QB l).2.1≠0
 . rw[Zr hs]at h; exact absurd h hs
 . rw[Zq hs]at h ⊢;unfold Qeb at h ⊢;simp only at h ⊢;generalize (if(au ⟨(QB l).1,l.length⟩ ⟨0,0,0,0⟩).2.a<(QB l).1.length then Qg ⟨(QB l).1,l.length⟩ 11 (au ⟨(QB l).1,l.length⟩ ⟨0,0,0,0⟩).2 else(au ⟨(QB l).1,l.length⟩ ⟨0,0,0,0⟩).2)=r at h ⊢;by_cases he:r.e≠0
   . rw[Zr he]at h; exact absurd h he
   . rw[Zq he]
theorem QDT {op:Int} (h:3<=op) (h2:op<=20):(QW op).2=opN op/\0<(QW op).2:=by
 have:op=3\/op=4\/op=5\/op=6\/op=7\/op=8\/op=9\/op=10\/op=11\/op=12\/op=13\/op=14\/op=15\/op=16\/op=17\/op=18\/op=19\/op=20:=by omega
 rcases this with rfl|rfl|rfl|rfl|rfl|rfl|rfl|rfl|rfl|rfl|rfl|rfl|rfl|rfl|rfl|rfl|rfl|rfl<;>exact⟨rfl,by decide⟩
theorem Qwb {s:ZG} (h:QaR s=true):s.length<=40:=(Qic h).1.2.2.2
mutual
theorem Qt7:∀ e:Ex,QaG e=true->e.prp
 |.mk op n nm l p,h=>by
   obtain⟨f1,f2,f3,f4,f5,f6,f7⟩:=QcJ.1 h;obtain⟨g1,g2⟩:=QgX f1;unfold Ex.prp;have hnm:nm.length<4611686018427387904:=by
     rcases f3 with rfl|rfl
     . rcases f4 with f4|f4
       . exact absurd rfl f4
       . have:=Qwb f4; omega
     . simp
   refine⟨?_,hnm,λ_=>Qft f5 (by omega),QpI l f7⟩;unfold Qda;show(if op=1 then _ else _)=true;by_cases h1:op=1
   . rw[Zr h1];have hl : l = [] := Yh.1 (by have : opN op = 0 := (by rw [h1]; rfl); omega)
     have hn:nm=[]:=f3.resolve_left (by omega);rw[hl,hn]; simp; omega
   . rw[Zq h1];by_cases h2:op=2
     . rw[Zr h2];have hl : l = [] := Yh.1 (by have : opN op = 0 := (by rw [h2]; rfl); omega)
       rw[hl,f2.resolve_left h1,f4.resolve_left (by omega)]; rfl
     . rw[Zq h2];obtain⟨k1,k2⟩:=QDT (op:=op) (by omega) g2;rw[f2.resolve_left h1,f3.resolve_left h2,k1,f1];rw[k1]at k2;simp[k2]
theorem QpI:∀ l:List Ex,Qai l=true->Ex.prpL l
 |[],_=>trivial
 |e::r,h=>by
  rw[Qai,Va]at h;exact⟨Qt7 e h.1,QpI r h.2⟩
end
theorem QAs {tx:ZG} (hl:tx.length<=300) (h0:(Qz tx).2.1=0):(Qz tx).1.prp/\(az (Qz tx).1 []).length<=20000 /\
 ((QcB (Qz tx).1).2=5\/∃ w y,QcB (Qz tx).1=(w,0)/\w.length<=20000/\Qz w=(y,0,0)/\y.er=(Qz tx).1.er/\QcB y=(w,0)/\y.prp/\(az y []).length<=20000):=by
 obtain⟨h1,h2⟩:=QAj hl h0;have hf:=Qun h0;have hp:=Qt7 _ hf;have hw:az (Qz tx).1 []=al (aq (Qz tx).1):=QfD _ hf [] (by simpa using h1);generalize (Qz tx).1=x at *;refine⟨hp,by rw[hw]; exact h1,?_⟩;rcases h2 with h5|⟨h6,h7⟩
 . left;unfold QcB;rw[hw,Zq (by omega),Zr (by rw[h5]; decide)]; exact h5
 . right;have hy:az (Qz (al (aq x))).1 []=al (aq x):=by
    have e:aq (Qz (al (aq x))).1=aq x:=by rw[<-QhD,h7,QhD]
    rw[QfD _ (Qoc _ (prp_er h7 hp)) [] (by rw[e]; simpa using h1),e]; rfl
   refine⟨al (aq x),(Qz (al (aq x))).1,?_,h1,by rw[<-h6],h7,?_,prp_er h7 hp,by rw[hy]; exact h1⟩
   . unfold QcB;rw[hw,Zq (by omega),Zq (by rw[h6]; simp)]
   . unfold QcB;rw[hy,Zq (by omega),Zq (by rw[h6]; simp)]
section
variable {H:ZI}
set_option maxRecDepth 8000 in
set_option maxHeartbeats 4000000 in
theorem law8 (l:List Int) (tx:ZG):Ok Tryz.prog 8 [.slc (QE l) l.length,st (B tx)] H (.ret (bl true)) H:=by
 refine Qt hm Tryz.func8 c8 (by simp) λZ => ?_;have h5:=λH=>QBe (H:=H);simp -implicitDefEqProofs[i8,r8];refine Qb (h5 _) ?_;by_cases hl:100<l.length
 . have hl':(100:Int)<l.length:=by omega
   simp -implicitDefEqProofs[hl'];exact Qi
 have hl':¬ (100:Int)<l.length:=by omega
 by_cases ht:300<tx.length
 . have ht':(300:Int)<tx.length:=by omega
   simp -implicitDefEqProofs[hl',ht'];exact Qi
 have ht':¬ (300:Int)<tx.length:=by omega
 have h25:=λH=>ok25 (H:=H) (l:=l) (by omega);have hw:=Qjt l;obtain⟨g1,g2⟩:=QyH l;have g5:=QDs l;have g8:=Qt6 hw;have hR:Qy.prp (QR (QdQ (Qav l))).1:=Qy.prp_er g2 g8;obtain⟨b1,b2,b3⟩:=QqN l g2;have hQ:Qy.prp (QR (al (Qa9 true (Qav l)))).1:=Qy.prp_er b3 hR;obtain⟨d1,_,_⟩:=QqN l (b3.trans g2);have hz:=(Qof (bb:=true) hw).x;have hrl:∀ {r:Qy},Qdg r=(al (Qa9 true (Qav l)),0)->(Qby r []).length<=140737488355328:=λ{r} h=>by
  unfold Qdg at h;split at h
  . have h2:=Zt Prod.snd h; cases h2
  . omega
 have h14:=λH=>Qip (H:=H) (l:=QdQ (Qav l)) g5;have h14w:=λH=>Qip (H:=H) (l:=al (Qa9 true (Qav l))) hz;rw[Quh g1]at h14;rw[Quh b2]at h14w;have h20:=λH=>ok20 (H:=H) hR (hrl b1);have h20q:=λH=>ok20 (H:=H) hQ (hrl d1);rw[b1]at h20;rw[d1]at h20q;have k23:=λH=>ok23 (H:=H) b3.symm hR;generalize QdQ (Qav l)=T at *;generalize al (Qa9 true (Qav l))=W at *;generalize (QR T).1=R at *;generalize (QR W).1=Q at *;have hck:=Zz (Qfo R);have c1:=Qe9 R;have c2:=Qfd R;have c3:=Qlp R;have hckq:=Zz (Qfo Q);have c1q:=Qe9 Q;have c2q:=Qfd Q;have c3q:=Qlp Q;have h11:=λH=>Qhv (H:=H) (l:=tx) (by omega);have hsm:=QCD tx;have hcs:=QB3 tx;have hez:=λh=>QBi (l:=tx) h;have hsw:=λh=>QAs (tx:=tx) (by omega) h;generalize Qz tx=X at *;obtain⟨x,e,q⟩:=X;simp only at hsm hcs hez h11 hsw;simp -implicitDefEqProofs[hl',ht'];refine Qb (h25 _) ?_;simp -implicitDefEqProofs;refine Qb (h14 _) ?_;simp -implicitDefEqProofs[QbJ,QG,c1,c2,hck];refine Qb (h20 _) ?_;simp -implicitDefEqProofs;refine Qb (h14w _) ?_;simp -implicitDefEqProofs[QbJ,QG,c1q,c2q,hckq];refine Qb (h20q _) ?_;simp -implicitDefEqProofs[QbJ,QG,c1,c2,c1q,c2q];refine QL (r:=bl true) (λ_=>by simpa[SV.strip]using k23 _) ?_;simp -implicitDefEqProofs;refine Qb (h11 _) ?_;have x1:=Ex.c_len x;have x2:x.c.take 5=x.c:=by rw[<-x1,VI]
 have x3:x.c.drop 5=[]:=VZ (by omega);have x4:=Zz (Ex.okc x);by_cases he:e=0
 . obtain⟨rfl,rfl⟩:=Prod.mk.inj (hez he);obtain⟨hp,hL,hcase⟩:=hsw rfl;have h28:=λH=>Qo2 (H:=H) hp (by omega) (Vf hL (by decide));simp only[Ex.v_c]at h28 ⊢;rcases hcase with h|⟨w,y,e1,e2,e3,e4,e5,e6,e7⟩
   . rw[h]at h28;generalize (QcB x).1=sx at *;generalize x.c=xc at *;simp -implicitDefEqProofs[QG,x1,x2,x4];refine Qb (h28 _) ?_;simp -implicitDefEqProofs;exact Qq 3 Z rfl (by simp)
   . rw[e1]at h28;have h11w:=λH=>Qhv (H:=H) (l:=w) (by omega);rw[e3]at h11w;have h28y:=λH=>Qo2 (H:=H) e6 (by rw[QrH e4]; omega) (Vf e7 (by decide));rw[e5]at h28y;have k29:=λH=>ok29 (H:=H) e4.symm hsm (by omega);have y1:=Ex.c_len y;have y2:y.c.take 5=y.c:=by rw[<-y1,VI]
     have y3:y.c.drop 5=[]:=VZ (by omega);have y4:=Zz (Ex.okc y);simp only[Ex.v_c]at h28y h11w;clear e1 e3 e4 e5 e6 e7 hsw hsm hcs hp hL;generalize x.c=xc at *;generalize y.c=yc at *;simp -implicitDefEqProofs[QG,x1,x2,x4];refine Qb (h28 _) ?_;simp -implicitDefEqProofs;refine Qb (h11w _) ?_;simp -implicitDefEqProofs[QG,y1,y2,y4];refine Qb (h28y _) ?_;simp -implicitDefEqProofs[QG,x1,x2,y1,y2];refine QL (r:=bl true) (λ_=>by simpa[SV.strip]using k29 _) ?_;simp -implicitDefEqProofs;exact Qq 3 Z rfl (by simp)
 . simp only[Ex.v_c];generalize x.c=xc at *;simp -implicitDefEqProofs[QG,x1,x4,he];exact Qq 3 Z rfl (by simp)
end
end Go.Proofs.YtmkdpmfhlfhjkaaGreatDoor
namespace Go.Proofs.YtmkdpmfhlfhjkaaGreatDoor
open Go Go.Ab
theorem QC4 {d:Dt} {t e:ZM} (ht:Tryz.prog.underlying t=some (.slice e)) (he:Tryz.prog.underlying e=some (.int .i64)) (h:d.ty Tryz.prog t):∃ l:List Int,d.sv=.slc (QE l) l.length:=by
 cases d with
 |sl zs =>
  simp only[Dt.ty,ht,Option.some.injEq,TypeDesc.slice.injEq]at h;obtain⟨e',rfl,_,k3⟩:=h;obtain⟨l,z1,z2⟩:=Qoa he zs k3;exact⟨l,by show [SV.slc (Dt.cellsL zs) zs.length].headD SV.any=_; rw[z1,z2]; rfl⟩
 |int k n=>simp[Dt.ty,ht]at h
 |bool b=>simp[Dt.ty,ht]at h
 |str s=>simp[Dt.ty,ht]at h
 |agg l=>simp[Dt.ty,ht]at h
theorem QwZ {d:Dt} (h:d.ty Tryz.prog 9):∃ l:ZG,d.sv=st (B l):=by
 obtain⟨s,rfl,_⟩:=Qvt h;exact⟨s.data.toList,Zt Ab.st (QmX s)⟩
theorem law8d:∀ dts,Dt.tyL Tryz.prog dts Tryz.f8.params.toList->Ok Tryz.prog 8 (dts.map Dt.sv) [] (.ret (bl true)) []:=by
 have hp:Tryz.f8.params.toList=[46,9]:=by kernel_rfl
 have u46:Tryz.prog.underlying 46=some (.slice 3):=by kernel_rfl
 have u3:Tryz.prog.underlying 3=some (.int .i64):=by kernel_rfl
 rw[hp];intro dts h
 match dts,h with
 |[d1,d2],h =>
  obtain⟨h1,h2,_⟩:=h;obtain⟨l,e1⟩:=QC4 u46 u3 h1;obtain⟨s,e2⟩:=QwZ h2;simp only[Vl,VM,e1,e2];exact law8 l s
end Go.Proofs.YtmkdpmfhlfhjkaaGreatDoor
