/- Steps of the proof. -/
import Derived.Test.YtmkdpmfhlfhjkaaGreatDoorPart3
import Derived.Test.YtmkdpmfhlfhjkaaGreatDoorPWT
set_option linter.all false
namespace Go.Proofs.YtmkdpmfhlfhjkaaGreatDoor
open Go.Ab
section
variable {H:ZG} {c:Cx} {r:Rd} {j k:Nat} {lb:ZE} {p:Int} {F:Rd->Ex×Rd}
theorem Qzl (hJ:J2 H j k) {p:AO} {L:ZG} {q n T ver:Nat} {l:ZD} (hL:L[q]? = some ⟨wds l,T,ver,true⟩) (hn':n=l.length) (hl:l.length<4611686018427387904) :
 Ok Tryz.prog 93 [rp j,.own (H.length+q) 0 n 1 ver] (w2 H j k (pdO c r) p++L) (.ret (bl (decide ((tkR c r).tx∈l)))) (w2 H j k (pdO c r) p++L):=by
 have:=IsS.own1 (H:=w2 H j k (pdO c r) p) hL hn';exact Qfs (Qbx hJ L) (by simpa using this) hl
theorem Qxc (hn:QY c) (hJ:J2 H j k) {p:AO} {L:ZG} {q:Nat} {s:ZE} (hs:QcH s=true) (he:r.e=0) (hL:L[q]? = some ⟨[st (B s)],9,0,true⟩) :
 Ok Tryz.prog 93 [rp j,.own (H.length+q) 0 1 1 0] (w2 H j k (pdO c r) p++L) (.ret (bl (Qd c s r))) (w2 H j k (pdO c r) p++L):=by
 have:=Qzl (c:=c) (r:=r) hJ (p:=p) (L:=L) (q:=q) (n:=1) (T:=9) (ver:=0) (l:=[s]) hL rfl (by simp)
 rwa [Qhh hn hs he]at this
def Qfw (c:Cx) (F:Rd->Ex×Rd) (lb:ZE) (p:Int) (r:Rd):Qb×Rd :=
 let w:=F r
 let a:=QM c F (t2 c [123] w.2)
 let l:=Qaf c F 0 c.ts.length [a.1] a.2
 (⟨2,lb,[],0,0,[],false,[],[w.1],l.1,[],p⟩,t2 c [125] l.2)
theorem Qyh (r:Rd):QdF c F { QdD with lb:=lb } r=Qfw c F lb (Qk c r) (t2 c [116,117,114,110] r):=by
 unfold QdF Qfw;simp only[QdD,QlD,QkA]
def tnC (lb:ZE) (n m:Nat) (p:Int):ZH:=[i64 2,st (B lb),st (B []),i64 0,i64 0,nl,bl false,nl,.own n 0 1 5 0,.own (n+2) 0 m 6 m,nl,i64 p]
def tnL (w:Ex) (l:List Qm) (G:ZG):ZG:=⟨w.c,25,0,true⟩::⟨[st (B [123])],9,0,true⟩::⟨rws Qm.c l,89,l.length,true⟩::G
def Qgf:IC:=match QdZ with|.keep _ a=>a|a=>a
set_option maxHeartbeats 2000000 in
theorem QjX (hn:QY c) (h20:c.ts.length<=20000) (hJ:J2 H j k) {d:Nat} (hF:PdC c 32 [] F d) (hkF:Kp c d F) (hst:Qq F) {w:Ex} {N:Nat} {K:ZF} (hg:Gd c d r) (he:r.e=0) {l:List Qm} (hlr:l.length<=r.a) {G:ZG} {env:Env}
 (h0:env.get 0=rp j) (h1:env.get 1=rp k)
 (hexit:l≠[]->Qd c [97,99,116,105,111,110] r=false->∀ env G,env.get 0=rp j->env.get 1=rp k->K (.exit 0) env (w2 H j k (pdO c r) ⟨tnC lb H.length l.length p,78,0,true⟩++tnL w l G))
 (hnext:Qd c [97,99,116,105,111,110] r=true->l.length≠10->(QM c F r).2.e=0->∀ env G,env.get 0=rp j->env.get 1=rp k->LI Tryz.prog N Qf QdZ env (w2 H j k (pdO c (QM c F r).2) ⟨tnC lb H.length (l.length+1) p,78,0,true⟩++tnL w (l++[(QM c F r).1]) G) K)
 (hbad:∀ rf:Rd,rf.e≠0->(l=[]/\Qd c [97,99,116,105,111,110] r=false/\rf=Qg c 11 r)\/(Qd c [97,99,116,105,111,110] r=true/\l.length=10/\rf=Qg c 12 r)\/(Qd c [97,99,116,105,111,110] r=true/\l.length≠10/\rf=(QM c F r).2)->∀ env H',Qt H [j,k] H'->K (.panic (QV rf.e rf.p)) env H') :
 LI Tryz.prog N Qf QdZ env (w2 H j k (pdO c r) ⟨tnC lb H.length l.length p,78,0,true⟩++tnL w l G) K:=by
 have hct:c.ts.length<4611686018427387904:=by omega
 have ha:=hg.a;have e2:=λo cs L f=>QfC (o:=o) (p:=⟨cs,78,0,true⟩) hJ L f;have e3:=λo cs L=>Qe5 (o:=o) hJ cs 78 L;have h79:=λp L e=>Qdg (Qbx (o:=pdO c r) (p:=p) hJ L) e;have h182:=λp L=>Qy9 hn h20 hF hkF hst (Qbx (o:=pdO c r) (p:=p) hJ L) hg he;have is1:∀ (p:AO) (L:ZG) (q:Nat),L[q]? = some ⟨[st (B [97,99,116,105,111,110])],9,0,true⟩->Ok Tryz.prog 93 [rp j,.own (H.length+q) 0 1 1 0] (w2 H j k (pdO c r) p++L) (.ret (bl (Qd c [97,99,116,105,111,110] r))) (w2 H j k (pdO c r) p++L):=λp L q hL=>Qxc hn hJ (s:=[97,99,116,105,111,110]) rfl he hL;have f11:(Qg c 11 r).e=11/\(Qg c 11 r).p=Qk c r:=by simp[Qg,he]
 have f12:(Qg c 12 r).e=12/\(Qg c 12 r).p=Qk c r:=by simp[Qg,he]
 have hb11:=hbad (Qg c 11 r) (by rw[f11.1]; decide);have hb12:=hbad (Qg c 12 r) (by rw[f12.1]; decide);rw[f11.1,f11.2]at hb11;rw[f12.1,f12.2]at hb12;have hcode:QdZ=.keep [0,1] (.seq (IC.nth 0 Qgf) (IC.nth 1 Qgf)):=rfl;refine Qu hm hcode ?_;generalize hK:(λ(x:XE) (env:Env) (H:ZG)=>match x with|.normal=>LI Tryz.prog N Qf QdZ env H K|x=>K x env H)=K'
 have hKn:∀ env H,K' .normal env H=LI Tryz.prog N Qf QdZ env H K:=λenv H=>by rw[<-hK]
 have hKp:∀ x env H,K' (.panic x) env H=K (.panic x) env H:=λx env H=>by rw[<-hK]
 have hKe:∀ n env H,K' (.exit n) env H=K (.exit n) env H:=λn env H=>by rw[<-hK]
 clear hK;have body:∀ (env:Env) (G:ZG),env.get 0=rp j->env.get 1=rp k->(l=[]\/Qd c [97,99,116,105,111,110] r=true) ->
  X Tryz.prog N Qf (IC.nth 1 Qgf) env (w2 H j k (pdO c r) ⟨tnC lb H.length l.length p,78,0,true⟩++tnL w l G) K':=by
  intro env G h0 h1 hc;simp -implicitDefEqProofs[IC.nth,Qgf,QdZ,h0,rp,tnC,tnL];refine Qc (by simpa[rp,tnC,tnL]using is1 ⟨tnC lb H.length l.length p,78,0,true⟩ (tnL w l (G++[⟨[st (B [97,99,116,105,111,110])],9,0,true⟩])) (G.length+3) (by simp[tnL])) ?_;by_cases hp:Qd c [97,99,116,105,111,110] r=true
  . simp -implicitDefEqProofs[h0,h1,rp,e3,hp];by_cases h10:l.length=10
    . have h10':(l.length:Int)=10:=by omega
      simp -implicitDefEqProofs[h10'];refine Qc (by simpa[rp,tnC,tnL]using h79 _ _ 12) ?_;simp -implicitDefEqProofs;rw[hKp];exact hb12 (.inr (.inl ⟨hp,h10,rfl⟩)) _ _ (Qt.w2 hJ (Qt.refl _ _))
    . have h10':¬ (l.length:Int)=10:=by omega
      have hb3:=λh=>hbad (QM c F r).2 h (.inr (.inr ⟨hp,h10,rfl⟩));have hn3:=hnext hp h10;simp -implicitDefEqProofs[h10'];generalize QM c F r=a at h182 hb3 hn3;refine Qaa (by simpa[rp]using h182 _ _) (λhe1 => ?_) (λhe1 H' hk => ?_)
      . rw[Qa5 hJ];simp -implicitDefEqProofs[e2,e3,Qfn,QaI Qm.c_len];refine⟨by omega,by omega,?_⟩;rw[hKn];refine LI.cong ?_ (hn3 he1 _ (G++[⟨[st (B [97,99,116,105,111,110])],9,0,true⟩,⟨a.1.c,89,0,true⟩]) ?_ ?_)
        . simp[tnC,tnL,Qgk,rws]
        all_goals simp[h0,h1,rp]
      . simp -implicitDefEqProofs;rw[hKp];exact hb3 he1 _ _ (hk.w2 hJ)
  . have hl0:=hc.resolve_right hp;rw[Vi]at hp;simp -implicitDefEqProofs[h0,rp,hp];refine Qc (by simpa[rp,tnC,tnL]using h79 _ _ 11) ?_;simp -implicitDefEqProofs;rw[hKp];exact hb11 (.inl ⟨hl0,hp,rfl⟩) _ _ (Qt.w2 hJ (Qt.refl _ _))
 generalize IC.nth 1 Qgf=B1 at body ⊢;by_cases hl0:l=[]
 . subst hl0;simp -implicitDefEqProofs[IC.nth,Qgf,QdZ,h0,h1,rp,e3,tnC,tnL];refine Qcg _ _ _ _ ?_;simp -implicitDefEqProofs;exact body _ G (by simp[rp]) (by simp[rp]) (.inl rfl)
 . simp -implicitDefEqProofs[IC.nth,Qgf,QdZ,h0,h1,rp,e3,tnC,tnL,hl0];refine QZ (r:=bl (Qd c [97,99,116,105,111,110] r)) (λ_=>by simpa[rp,tnC,tnL,SV.strip]using is1 ⟨tnC lb H.length l.length p,78,0,true⟩ (tnL w l (G++[⟨[st (B [97,99,116,105,111,110])],9,0,true⟩])) (G.length+3) (by simp[tnL])) ?_;by_cases hp:Qd c [97,99,116,105,111,110] r=true
   . simp -implicitDefEqProofs[hp];refine Xc ?_ (body _ (G++[⟨[st (B [97,99,116,105,111,110])],9,0,true⟩]) (by simp[rp]) (by simp[rp]) (.inr hp));simp[tnC,tnL]
   . rw[Vi]at hp;simp -implicitDefEqProofs[hp];rw[hKe];refine hexit hl0 hp _ (G++[⟨[st (B [97,99,116,105,111,110])],9,0,true⟩]) ?_ ?_<;>simp[rp]
theorem QhF {n:Nat} {l:List Qm} (h:r.e≠0):Qaf c F 0 n l r=(l,r):=by
 cases n with
 |zero=>rfl
 |succ n=>rw[Qaf,Zm (by rw[QaE h]; decide)]
theorem QzO (hn:QY c) (h20:c.ts.length<=20000) (hJ:J2 H j k) {d:Nat} (hF:PdC c 32 [] F d) (hkF:Kp c d F) (hst:Qq F) {w:Ex} {N:Nat} {K:ZF} {res:List Qm×Rd}
 (hexit:res.2.e=0->Gd c d res.2->∀ env G,env.get 0=rp j->env.get 1=rp k->K (.exit 0) env (w2 H j k (pdO c res.2) ⟨tnC lb H.length res.1.length p,78,0,true⟩++tnL w res.1 G))
 (hpan:res.2.e≠0->∀ env H',Qt H [j,k] H'->K (.panic (QV res.2.e res.2.p)) env H') :
 ∀ (n:Nat) (l:List Qm) (r:Rd) (G:ZG) (env:Env),c.ts.length<=r.a+n->l≠[]->l.length<=r.a->Qaf c F 0 n l r=res->Gd c d r->r.e=0->env.get 0=rp j->env.get 1=rp k ->
  LI Tryz.prog N Qf QdZ env (w2 H j k (pdO c r) ⟨tnC lb H.length l.length p,78,0,true⟩++tnL w l G) K:=by
 intro n
 induction n with
 |zero =>
  intro l r G env hna hl hlr hr hg he h0 h1;have hp:Qd c [97,99,116,105,111,110] r=false:=by rw[<-Vi]; intro h; have:=Qaj h; omega
  rw[Qaf]at hr;subst hr;refine QjX hn h20 hJ hF hkF hst hg he hlr h0 h1 (λ_ _=>hexit he hg) (λh=>by rw[hp]at h; cases h) (λrf _ h => ?_)
  rcases h with h|h|h
  . exact absurd h.1 hl
  . rw[hp]at h; cases h.1
  . rw[hp]at h; cases h.1
 |succ n ih =>
  intro l r G env hna hl hlr hr hg he h0 h1;rw[Qaf]at hr;by_cases hp:Qd c [97,99,116,105,111,110] r=true
  . rw[Zn hp]at hr;simp only at hr;have hlt:=Qaj hp;have ht:(Qh c [97,99,116,105,111,110] r).2=Qa r:=by simp[Qh,hp]
    have hstr:r.a+1<=(QM c F r).2.a:=by
     have:=QqZ hkF (r:=r) (by rw[ht]; exact hg.next hlt)
     rw[ht]at this;exact this
    obtain⟨k1,k2⟩:=Qix hkF r hg;refine QjX hn h20 hJ hF hkF hst hg he hlr h0 h1 (λ_ h=>by rw[hp]at h; cases h) (λ_ h10 he1 env G h0 h1 => ?_) (λrf hf h => ?_)
    . rw[Zm h10]at hr;refine LI.cong ?_ (ih (l++[(QM c F r).1]) (QM c F r).2 G env (by omega) (by simp) (by simp; omega) hr k1 he1 h0 h1);simp
    . rcases h with h|h|h
      . exact absurd h.1 hl
      . rw[Zn h.2.1,<- h.2.2]at hr;have hb:(QM c F rf).2=rf:=QhD rf hf;rw[QhF (by rw[hb]; exact hf),hb]at hr;have:res.2=rf:=by rw[<-hr]
        rw[<-this]at hf ⊢;exact hpan hf
      . rw[Zm h.2.1,<- h.2.2,QhF hf]at hr;have:res.2=rf:=by rw[<-hr]
        rw[<-this]at hf ⊢;exact hpan hf
  . rw[Zm hp]at hr;rw[Vi]at hp;subst hr;refine QjX hn h20 hJ hF hkF hst hg he hlr h0 h1 (λ_ _=>hexit he hg) (λh=>by rw[hp]at h; cases h) (λrf _ h => ?_)
    rcases h with h|h|h
    . exact absurd h.1 hl
    . rw[hp]at h; cases h.1
    . rw[hp]at h; cases h.1
theorem Qxd (he:r.e=0) (hp:Qd c [97,99,116,105,111,110] r=false):(QM c F r).2=Qg c 11 r:=by
 have hb:(Qg c 11 r).e≠0:=by simp[Qg,he]
 have ht:t2 c [97,99,116,105,111,110] r=Qg c 11 r:=by simp[t2,Qh,hp]
 unfold QM;simp only[QkA,ht,Qd7 _ hb,QdM _ _ hb,Qge _ _ hb,Q2 _ hb,Qez hb,Qfy _ hb]
end
section
variable {H:ZG} {c:Cx} {r:Rd} {j k:Nat} {lb:ZE} {p:Int} {F:Rd->Ex×Rd}
theorem Qpl:∀ (n:Nat) (l:List Qm) (r:Rd),l.length<=(Qaf c F 0 n l r).1.length
 |0,l,r=>Vb _
 |n+1,l,r=>by
  rw[Qaf];split
  . have:=Qpl n (l++[(QM c F (if l.length=10 then Qg c 12 r else r)).1]) (QM c F (if l.length=10 then Qg c 12 r else r)).2;simp only[Vj,Vh,VK]at this;simp only;omega
  . exact Vb _
theorem Qyw (hn:QY c) (h20:c.ts.length<=20000) (hcl:closed H) (hJ:J2 H j k) (he:r.e=0) (ha:r.a<=c.ts.length) {w:Ex} {l:List Qm} (hl0:l≠[]) {G:ZG} {env:Env} (h0:env.get 0=rp j) {res:Qb×Rd}
 (hres:(⟨2,lb,[],0,0,[],false,[],[w],l,[],p⟩,t2 c [125] r)=res) :
 X Tryz.prog Tryz.f148.ntmps Qf (IC.tl 4 QdW) env (w2 H j k (pdO c r) ⟨tnC lb H.length l.length p,78,0,true⟩++tnL w l G) (FinP H.length QiU (PdS c H j k res)):=by
 have hct:c.ts.length<4611686018427387904:=by omega
 subst hres;have hw:=Qfz (p:=⟨tnC lb H.length l.length p,78,0,true⟩) (L:=tnL w l (G++[⟨[st (B [125])],9,0,true⟩])) (q:=G.length+3) (n:=1) (T:=9) (ver:=0) (l:=[[125]]) hn hct hJ (by simp[wds,tnL]) rfl (by simp) (by intro s hs; simp at hs; subst hs; rfl) he ha;simp[IC.tl,QdW,QiU,h0,rp,tnL];refine Qaa (by simpa[rp,tnL]using hw) (λhe2 => ?_) (λhe2 H' hk => ?_)
 . rw[Qa5 hJ];simp;rw[Qau]at he2 ⊢;refine⟨_,_,PdS.ret (q:=(⟨2,lb,[],0,0,[],false,[],[w],l,[],p⟩,t2 c [125] r)) he2 rfl,?_⟩;refine QmN (L:=tnL w l (G++[⟨[st (B [125])],9,0,true⟩])) rfl hcl hJ ?_;have e1:=(Rw.own (n:=H.length) (q:=0) (m:=1) (sz:=5) (ver:=0) (T:=25) (L:=tnL w l (G++[⟨[st (B [125])],9,0,true⟩])) (cells:=w.c) rfl (by simp) (Ex.und _ w)).fz [] 1;have e2:=(Rw.own (n:=H.length) (q:=2) (m:=l.length) (sz:=6) (ver:=l.length) (T:=89) (L:=tnL w l (G++[⟨[st (B [125])],9,0,true⟩])) (cells:=rws Qm.c l) rfl (QaI Qm.c_len l) (Qe2 (Qm.und _) l)).fz [] 1;simp only[VE,V9]at e1 e2;simp only[tnC,Vn,VU,Qb.cN,e1,e2];simp[exN,acN,inN,hl0,exS,Ex.cL]
 . simp;exact⟨_,_,PdS.pan (q:=(⟨2,lb,[],0,0,[],false,[],[w],l,[],p⟩,t2 c [125] r)) he2 (hk.w2 hJ),Qi⟩
theorem QBd (hn:QY c) (h20:c.ts.length<=20000) (hJ:J2 H j k) {d:Nat} (hF:PdC c 32 [] F d) (hkF:Kp c d F) (hst:Qq F) (ho:H[j]? = some (pdO c r)) (hk0:H[k]? = some ⟨sC lb p,78,0,true⟩) (hg:Gd c d r) (he:r.e=0) :
 OkP Tryz.prog 148 [rp j,rp k] H (PdS c H j k (Qfw c F lb p r)):=by
 have hct:c.ts.length<4611686018427387904:=by omega
 have ha:=hg.a;have e2n:=λo cs f=>Qmv (o:=o) (p:=⟨cs,78,0,true⟩) hJ f;have e3n:=λo cs=>Qls (o:=o) hJ cs 78;have e2:=λo cs L f=>QfC (o:=o) (p:=⟨cs,78,0,true⟩) hJ L f;have e3:=λo cs L=>Qe5 (o:=o) hJ cs 78 L;refine Qa8 hm Tryz.func148 c148 (by simp[rp]) λhcl => ?_;refine Xc (H':=w2 H j k (pdO c r) ⟨sC lb p,78,0,true⟩) (Qm9 ho hk0) ?_;have tail:∀ (w:Ex) (l:List Qm) (r:Rd) (G:ZG) (env:Env) (res:Qb×Rd),r.e=0->r.a<=c.ts.length->l≠[]->env.get 0=rp j->_->_:=λw l r G env res he ha hl0 h0 hr=>Qyw (lb:=lb) (p:=p) (G:=G) (env:=env) (res:=res) (w:=w) (l:=l) hn h20 hcl hJ he ha hl0 h0 hr;rw[show QdW=.seq (IC.nth 0 QdW) (.seq (IC.nth 1 QdW) (.seq (IC.nth 2 QdW) (.seq (IC.nth 3 QdW) (IC.tl 4 QdW))))from rfl];generalize IC.tl 4 QdW=t4 at tail ⊢;generalize hres:Qfw c F lb p r=res;unfold Qfw at hres;have bad:∀ rf:Rd,rf.e≠0->res.2=rf->∀ H',Qt H [j,k] H'->PdS c H j k res (.pan (QV rf.e rf.p)) H':=by
  intro rf hf hs H' hk;rw[<-hs]at hf ⊢;exact PdS.pan hf hk
 have hc:=λp=>hF (Qqi (o:=pdO c r) (p:=p) hJ) hg he;have hg1:=(hkF _ hg).1;simp[IC.nth,QdW,QiU,rp,e2n,e3n,sC];refine Q4 (by simpa[rp]using hc _) ?_;intro o H' hq;unfold PdP PdV at hq;generalize F r=q at hq hg1 hres;by_cases he1:q.2.e=0
 . rw[Zn he1]at hq;obtain⟨rfl,rfl⟩:=hq;rw[Qr3 hJ];have hw:=Qfz (p:=⟨[i64 2,st (B lb),st (B []),i64 0,i64 0,nl,bl false,nl,.own H.length 0 1 5 0,nl,nl,i64 p],78,0,true⟩) (L:=[⟨q.1.c,25,0,true⟩,⟨[st (B [123])],9,0,true⟩]) (q:=1) (n:=1) (T:=9) (ver:=0) (l:=[[123]]) hn hct hJ (by simp[wds]) rfl (by simp) (by intro s hs; simp at hs; subst hs; rfl) he1 hg1.a;have hg2:=(QH (c:=c) (d:=d) [123] hg1).1;simp[e2,e3,Ex.v];refine Qaa (by simpa[rp]using hw) (λhe2 => ?_) (λhe2 H' hk => ?_)
   . rw[Qa5 hJ];simp only[Qau]at he2 ⊢;try simp only at hres
     have hno:=Qxd (c:=c) (r:=t2 c [123] q.2) (F:=F) he2;generalize t2 c [123] q.2=r2 at hg2 he2 hres hno ⊢;have hka:=Qix hkF r2 hg2;simp;refine LI.tell (Qaw.own0 (j:=k) (p:=9) (o:=⟨[i64 2,st (B lb),st (B []),i64 0,i64 0,nl,bl false,nl,.own H.length 0 1 5 0,nl,nl,i64 p],78,0,true⟩) (QjS hJ _) rfl rfl 89 6) ?_;rw[Qqm hJ];refine LI.cong (H':=w2 H j k (pdO c r2) ⟨tnC lb H.length ([]:List Qm).length p,78,0,true⟩++tnL q.1 [] []) (by simp[tnC,tnL,rws]) ?_;refine QjX hn h20 hJ hF hkF hst hg2 he2 (by simp) (by simp[rp]) (by simp[rp]) (λh=>absurd rfl h) (λhp _ he3 env G h0 h1 => ?_) (λrf hf h env H' hk => ?_)
     . have hpos:1<=(QM c F r2).2.a:=by
        have ht:(Qh c [97,99,116,105,111,110] r2).2=Qa r2:=by simp[Qh,hp]
        have:=QqZ hkF (r:=r2) (by rw[ht]; exact hg2.next (Qaj hp))
        rw[ht]at this;simp only[Qa]at this;omega
       generalize QM c F r2=a at he3 hres hka hpos ⊢;try simp only at hres
       generalize hs:Qaf c F 0 c.ts.length [a.1] a.2=s at hres;refine LI.cong (H':=w2 H j k (pdO c a.2) ⟨tnC lb H.length [a.1].length p,78,0,true⟩++tnL q.1 [a.1] G) (by simp) ?_;have hsl:s.1≠[]:=by
        have:=Qpl (c:=c) (F:=F) c.ts.length [a.1] a.2;rw[hs]at this;intro h;rw[h]at this;simp at this
       refine QzO hn h20 hJ hF hkF hst (res:=s) (λhs0 hgs env G h0 h1 => ?_) (λhs0 env H' hk => ?_) c.ts.length [a.1] a.2 G env (by omega) (by simp) (by simpa using hpos) hs hka.1 he3 h0 h1
       . simp;exact tail q.1 s.1 s.2 G env res hs0 hgs.a hsl h0 hres
       . simp;exact⟨_,_,bad s.2 hs0 (by rw[<-hres]; simp only[Q2 _ hs0]) _ hk,Qi⟩
     . simp;have hrf:(QM c F r2).2=rf:=by
        rcases h with h|h|h
        . rw[hno h.2.1,h.2.2]
        . have:=h.2.1; simp at this
        . exact h.2.2.symm
       refine⟨_,_,bad rf hf ?_ _ hk,Qi⟩;rw[<-hres];simp only[hrf,QhF hf,Q2 _ hf]
   . simp;rw[Qau]at he2;refine⟨_,_,bad _ he2 ?_ _ (hk.w2 hJ),Qi⟩;rw[<-hres];simp only[QhD _ he2,QhF he2,Q2 _ he2]
 . rw[Zm he1]at hq;obtain⟨rfl,hk⟩:=hq;simp;have hk':Qt H [j,k] H':=(show Qt (w2 H j k (pdO c r) _++[]) [j] H' by simpa using hk).w2 hJ;refine⟨_,_,bad _ he1 ?_ _ hk',Qi⟩;rw[<-hres];simp only[Q2 _ he1,QhD _ he1,QhF he1]
end
section
variable {H:ZG} {c:Cx} {r:Rd} {j k:Nat} {lb:ZE} {p:Int} {F:Rd->Ex×Rd}
def Qgo (c:Cx) (F:Rd->Ex×Rd) (lb:ZE) (p:Int) (r:Rd):Qb×Rd :=
 let e:=QcD c F (t2 c [112,97,121] (t2 c [123] r))
 (⟨3,lb,[],0,0,[],false,[],[],[],e.1,p⟩,t2 c [125] (t2 c [59] e.2))
def enC (lb:ZE) (n m:Nat) (p:Int):ZH:=[i64 3,st (B lb),st (B []),i64 0,i64 0,nl,bl false,nl,nl,nl,.own (n+1) 0 (m+1) 5 m,i64 p]
def enL (l:List Ex) (m:Nat) (G:ZG):ZG:=⟨[st (B [123]),st (B [112,97,121])],9,0,true⟩::⟨Ex.cL l,25,m,true⟩::G
def Nb (c:Cx) (F:Rd->Ex×Rd):Prop:=∀ r:Rd,r.e=0->Qbw c r=false->(F r).2=Qg c 11 r
theorem QhQ {n:Nat} {l:List Ex} (h:r.e≠0):Qak c F n l r=(l,r):=by
 cases n with
 |zero=>rfl
 |succ n=>rw[Qak,Zm (by rw[QaE h]; decide)]
set_option maxHeartbeats 2000000 in
theorem QyF (hn:QY c) (h20:c.ts.length<=20000) (hJ:J2 H j k) {d:Nat} (hF:PdC c 32 [] F d) (hkF:Kp c d F) (hst:Qq F) (hnb:Nb c F) {N:Nat} {K:ZF} {res:List Ex×Rd}
 (hexit:res.2.e=0->Gd c d res.2->∀ env G m,res.1.length=m+1->env.get 0=rp j->env.get 1=rp k->K (.exit 0) env (w2 H j k (pdO c res.2) ⟨enC lb H.length m p,78,0,true⟩++enL res.1 m G))
 (hpan:res.2.e≠0->∀ env H',Qt H [j,k] H'->K (.panic (QV res.2.e res.2.p)) env H') :
 ∀ (n:Nat) (l:List Ex) (m:Nat) (r:Rd) (G:ZG) (env:Env),c.ts.length<=r.a+n->l.length=m+1->l.length<=r.a->Qak c F n l r=res->Gd c d r->r.e=0->env.get 0=rp j->env.get 1=rp k ->
  LI Tryz.prog N Qf QgB env (w2 H j k (pdO c r) ⟨enC lb H.length m p,78,0,true⟩++enL l m G) K:=by
 have hct:c.ts.length<4611686018427387904:=by omega
 have out:∀ (l:List Ex) (m:Nat) (r:Rd) (G:ZG) (env:Env),Qd c [44] r=false->(l,r)=res->l.length=m+1->Gd c d r->r.e=0->env.get 0=rp j->env.get 1=rp k ->
  LI Tryz.prog N Qf QgB env (w2 H j k (pdO c r) ⟨enC lb H.length m p,78,0,true⟩++enL l m G) K:=by
  intro l m r G env hp hr hlm hg he h0 h1;refine Qu hm QgB.eq_1 ?_;have h90:=λp L=>QcW hn (Qbx (o:=pdO c r) (p:=p) hJ L) (by have:=hg.a; omega) he (s:=[44]) rfl;simp[h0,h1,rp];refine Qc (by simpa[rp]using h90 _ _) ?_;simp only[Q9,hp];simp[h0,h1];rw[Qa5 hJ];subst hr;exact hexit he hg _ G m hlm (by simp) (by simp)
 intro n
 induction n with
 |zero =>
  intro l m r G env hna hlm hlr hr hg he h0 h1;exact out l m r G env (by rw[<-Vi]; intro h; have:=Qaj h; omega) hr hlm hg he h0 h1
 |succ n ih =>
  intro l m r G env hna hlm hlr hr hg he h0 h1;rw[Qak]at hr;by_cases hp:Qd c [44] r=true
  . rw[Zn hp]at hr;simp only[QcO hp]at hr;have ha:=hg.a;have hg1:=hg.next (Qaj hp)
    have he1:(Qa r).e=0:=he;have e2:=λo cs L f=>QfC (o:=o) (p:=⟨cs,78,0,true⟩) hJ L f;have e3:=λo cs L=>Qe5 (o:=o) hJ cs 78 L;have h90:=λp L=>QcW hn (Qbx (o:=pdO c r) (p:=p) hJ L) (by omega) he (s:=[44]) rfl;have h79:=λp L e=>Qdg (Qbx (o:=pdO c (Qa r)) (p:=p) hJ L) e;have h183:=λp L=>QxD hn (Qbx (o:=pdO c (Qa r)) (p:=p) hJ L) he1;have hc:=λp L=>hF (Qbx (o:=pdO c (Qa r)) (p:=p) hJ L) hg1 he1;refine Qu hm QgB.eq_1 ?_;simp[h0,h1,rp];refine Qc (by simpa[rp]using h90 _ _) ?_;rw[Qa5 hJ];simp only[Q9,hp,Zs];simp[h0,h1,rp,e3,enC,enL];by_cases h32:l.length=32
    . have h32':(m:Int)+1=32:=by omega
      simp[h32'];refine Qc (by simpa[rp]using h183 _ _) ?_;by_cases hb:Qbw c (Qa r)=true
      . rw[Zn ⟨h32,hb⟩]at hr;have hf:=Qfb (e:=12) (by decide) hg1;have f12:(Qg c 12 (Qa r)).e=12/\(Qg c 12 (Qa r)).p=Qk c (Qa r):=by simp[Qg,he1]
        rw[hst _ hf.2.2,QhQ hf.2.2]at hr;simp[hb];refine Qc (by simpa[rp]using h79 _ _ 12) ?_;simp;have:=hpan (by rw[<-hr]; exact hf.2.2);rw[<-hr]at this;simp only[f12.1,f12.2]at this;exact this _ _ (Qt.w2 hJ (Qt.refl _ _))
      . rw[Zm (λh=>hb h.2)]at hr;rw[Vi]at hb;have hf:=Qfb (e:=11) (by decide) hg1;have f11:(Qg c 11 (Qa r)).e=11/\(Qg c 11 (Qa r)).p=Qk c (Qa r):=by simp[Qg,he1]
        rw[hnb _ he1 hb,QhQ hf.2.2]at hr;simp[hb];refine Qc (by simpa[rp]using h79 _ _ 11) ?_;simp;have:=hpan (by rw[<-hr]; exact hf.2.2);rw[<-hr]at this;simp only[f11.1,f11.2]at this;exact this _ _ (Qt.w2 hJ (Qt.refl _ _))
    . have h32':¬ (m:Int)+1=32:=by omega
      rw[Zm (λh=>h32 h.1)]at hr;have hk2:=hkF _ hg1;simp[h32'];refine Q4 (by simpa[rp,enC,enL]using hc _ _) ?_;intro o H' hq;unfold PdP PdV at hq;generalize F (Qa r)=q at hq hr hk2;by_cases he2:q.2.e=0
      . rw[Zn he2]at hq;obtain⟨rfl,rfl⟩:=hq;rw[Qa5 hJ];have hcl5:(Ex.cL l).length=(m+1)*5:=by rw[Qia,hlm]
        simp[e2,e3,Ex.v,hcl5];have nx:∀ env,env.get 0=rp j->env.get 1=rp k->LI Tryz.prog N Qf QgB env (w2 H j k (pdO c q.2) ⟨[i64 3,st (B lb),st (B []),i64 0,i64 0,nl,bl false,nl,nl,nl,.own (H.length+1) 0 (m+1+1) 5 (m+1),i64 p],78,0,true⟩++(⟨[st (B [123]),st (B [112,97,121])],9,0,true⟩::⟨Ex.cL l++(q.1.c++List.drop ((m+1)*5+5) (Ex.cL l++[i64 0,i64 0,st ⟨#[]⟩,.val (.slice none 0 0),i64 0])),25,m+1,true⟩::G)) K:=by
         intro env g0 g1;have hdr:List.drop ((m+1)*5+5) (Ex.cL l++[i64 0,i64 0,st ⟨#[]⟩,.val (.slice none 0 0),i64 0])=[]:=V1 (by simp[hcl5]);rw[hdr,VE];have hna1:(Qa r).a=r.a+1:=rfl;refine LI.cong ?_ (ih (l++[q.1]) (m+1) q.2 G env (by omega) (by simp[hlm]) (by simp; omega) hr hk2.1 he2 g0 g1);simp[enC,enL,Qop]
        refine⟨rfl,by omega,by omega,?_⟩;repeat' constructor
        all_goals first|omega|(refine nx _ ?_ ?_<;>simp[Qho,rp])
      . rw[Zm he2]at hq;obtain⟨rfl,hk⟩:=hq;simp;rw[QhQ he2]at hr;subst hr;exact hpan he2 _ _ (hk.w2 hJ)
  . rw[Zm hp]at hr;rw[Vi]at hp;exact out l m r G env hp hr hlm hg he h0 h1
end
section
variable {H:ZG} {c:Cx} {r:Rd} {j k:Nat} {lb:ZE} {p:Int} {F:Rd->Ex×Rd}
theorem QAK (hn:QY c) (h20:c.ts.length<=20000) (hcl:closed H) (hJ:J2 H j k) (he:r.e=0) (ha:r.a<=c.ts.length) {l:List Ex} {m:Nat} (hlm:l.length=m+1) {G:ZG} {env:Env} (h0:env.get 0=rp j) {res:Qb×Rd}
 (hres:(⟨3,lb,[],0,0,[],false,[],[],[],l,p⟩,t2 c [125] (t2 c [59] r))=res) :
 X Tryz.prog Tryz.f149.ntmps Qf (IC.tl 4 Qd2) env (w2 H j k (pdO c r) ⟨enC lb H.length m p,78,0,true⟩++enL l m G) (FinP H.length Qk9 (PdS c H j k res)):=by
 have hct:c.ts.length<4611686018427387904:=by omega
 subst hres;have hw:=Qfz (p:=⟨enC lb H.length m p,78,0,true⟩) (L:=enL l m (G++[⟨[st (B [59]),st (B [125])],9,0,true⟩])) (q:=G.length+2) (n:=2) (T:=9) (ver:=0) (l:=[[59],[125]]) hn hct hJ (by simp[wds,enL]) rfl (by simp) (by intro s hs; simp at hs; rcases hs with rfl|rfl<;>rfl) he ha
 simp[IC.tl,Qd2,Qk9,h0,rp,enL];refine Qaa (by simpa[rp,enL]using hw) (λhe2 => ?_) (λhe2 H' hk => ?_)
 . rw[Qa5 hJ];simp;rw[Qik]at he2 ⊢;refine⟨_,_,PdS.ret (q:=(⟨3,lb,[],0,0,[],false,[],[],[],l,p⟩,t2 c [125] (t2 c [59] r))) he2 rfl,?_⟩;refine QmN (L:=enL l m (G++[⟨[st (B [59]),st (B [125])],9,0,true⟩])) rfl hcl hJ ?_;have e1:=(Rw.own (n:=H.length) (q:=1) (m:=m+1) (sz:=5) (ver:=m) (T:=25) (L:=enL l m (G++[⟨[st (B [59]),st (B [125])],9,0,true⟩])) (cells:=Ex.cL l) rfl (by rw[Qia,hlm]) (Ex.undL _ l)).fz [] 1;simp only[VE]at e1;have hl0:l≠[]:=by rintro rfl; simp at hlm
   simp only[enC,Vn,VU,Qb.cN,e1];simp[exN,acN,inN,hl0,exS,hlm]
 . simp;exact⟨_,_,PdS.pan (q:=(⟨3,lb,[],0,0,[],false,[],[],[],l,p⟩,t2 c [125] (t2 c [59] r))) he2 (hk.w2 hJ),Qi⟩
theorem QuS (hn:QY c) (h20:c.ts.length<=20000) (hJ:J2 H j k) {d:Nat} (hF:PdC c 32 [] F d) (hkF:Kp c d F) (hst:Qq F) (hnb:Nb c F) (ho:H[j]? = some (pdO c r)) (hk0:H[k]? = some ⟨sC lb p,78,0,true⟩) (hg:Gd c d r) (he:r.e=0) :
 OkP Tryz.prog 149 [rp j,rp k] H (PdS c H j k (Qgo c F lb p r)):=by
 have hct:c.ts.length<4611686018427387904:=by omega
 have ha:=hg.a;have e2n:=λo cs f=>Qmv (o:=o) (p:=⟨cs,78,0,true⟩) hJ f;have e3n:=λo cs=>Qls (o:=o) hJ cs 78;have e2:=λo cs L f=>QfC (o:=o) (p:=⟨cs,78,0,true⟩) hJ L f;have e3:=λo cs L=>Qe5 (o:=o) hJ cs 78 L;refine Qa8 hm Tryz.func149 c149 (by simp[rp]) λhcl => ?_;refine Xc (H':=w2 H j k (pdO c r) ⟨sC lb p,78,0,true⟩) (Qm9 ho hk0) ?_;have tail:∀ (l:List Ex) (m:Nat) (r:Rd) (G:ZG) (env:Env) (res:Qb×Rd),r.e=0->r.a<=c.ts.length->l.length=m+1->env.get 0=rp j->_->_:=λl m r G env res he ha hlm h0 hr=>QAK (lb:=lb) (p:=p) (G:=G) (env:=env) (res:=res) (l:=l) (m:=m) hn h20 hcl hJ he ha hlm h0 hr;rw[show Qd2=.seq (IC.nth 0 Qd2) (.seq (IC.nth 1 Qd2) (.seq (IC.nth 2 Qd2) (.seq (IC.nth 3 Qd2) (IC.tl 4 Qd2))))from rfl];generalize IC.tl 4 Qd2=t4 at tail ⊢;generalize hres:Qgo c F lb p r=res;unfold Qgo QcD at hres;have bad:∀ rf:Rd,rf.e≠0->res.2=rf->∀ H',Qt H [j,k] H'->PdS c H j k res (.pan (QV rf.e rf.p)) H':=by
  intro rf hf hs H' hk;rw[<-hs]at hf ⊢;exact PdS.pan hf hk
 have hw:=Qfz (p:=⟨[i64 3,st (B lb),st (B []),i64 0,i64 0,nl,bl false,nl,nl,nl,nl,i64 p],78,0,true⟩) (L:=[⟨[st (B [123]),st (B [112,97,121])],9,0,true⟩]) (q:=0) (n:=2) (T:=9) (ver:=0) (l:=[[123],[112,97,121]]) hn hct hJ (by simp[wds]) rfl (by simp) (by intro s hs; simp at hs; rcases hs with rfl|rfl<;>rfl) he ha
 have hg1:=(QH (c:=c) (d:=d) [112,97,121] (QH (c:=c) (d:=d) [123] hg).1).1;simp[IC.nth,Qd2,Qk9,rp,e2n,e3n,sC];refine Qaa (by simpa[rp]using hw) (λhe1 => ?_) (λhe1 H' hk => ?_)
 . rw[Qa5 hJ];simp only[Qik]at he1 ⊢;have hp1:=(QgQ he1).2;generalize t2 c [112,97,121] (t2 c [123] r)=r1 at hg1 he1 hres hp1 ⊢;have hc:=λp L=>hF (Qbx (o:=pdO c r1) (p:=p) hJ L) hg1 he1;have hg2:=(hkF _ hg1).1;have hka:=(hkF _ hg1).2;simp;refine Q4 (by simpa[rp]using hc _ _) ?_;intro o H' hq;unfold PdP PdV at hq;generalize F r1=q at hq hg2 hres hka;by_cases he2:q.2.e=0
   . rw[Zn he2]at hq;obtain⟨rfl,rfl⟩:=hq;rw[Qa5 hJ];have hpos:1<=q.2.a:=by omega
     simp[e2,e3,Ex.v];generalize hs:Qak c F c.ts.length [q.1] q.2=s at hres;refine LI.cong (H':=w2 H j k (pdO c q.2) ⟨enC lb H.length 0 p,78,0,true⟩++enL [q.1] 0 []) (by simp[enC,enL,Ex.cL]) ?_;refine QyF hn h20 hJ hF hkF hst hnb (res:=s) (λhs0 hgs env G m hlm h0 h1 => ?_) (λhs0 env H' hk => ?_) c.ts.length [q.1] 0 q.2 [] _ (by omega) rfl (by simpa using hpos) hs hg2 he2 ?_ ?_
     . simp;exact tail s.1 m s.2 G env res hs0 hgs.a hlm h0 hres
     . simp;exact⟨_,_,bad s.2 hs0 (by rw[<-hres]; simp only[Q2 _ hs0]) _ hk,Qi⟩
     all_goals simp[rp]
   . rw[Zm he2]at hq;obtain⟨rfl,hk⟩:=hq;simp;refine⟨_,_,bad _ he2 ?_ _ (hk.w2 hJ),Qi⟩;rw[<-hres,QhQ he2];simp only[Q2 _ he2]
 . simp;rw[Qik]at he1;refine⟨_,_,bad _ he1 ?_ _ (hk.w2 hJ),Qi⟩;rw[<-hres];generalize t2 c [112,97,121] (t2 c [123] r)=r1 at he1;have hF1:=hst r1 he1;rw[hF1,QhQ he1];simp only[Q2 _ he1]
end
section
variable {H:ZG} {c:Cx} {r:Rd} {j:Nat} {F:Rd->Ex×Rd}
def Qfo (c:Cx) (F:Rd->Ex×Rd) (r:Rd):Qb×Rd :=
 let l:=Qay c r
 if Qd c [100,101,97,108] l.2=true then QfD c F l.1 (Qk c l.2) (Qa l.2)
 else if Qd c [116,117,114,110] l.2=true then Qfw c F l.1 (Qk c l.2) (Qa l.2)
 else if Qd c [101,110,100] l.2=true then Qgo c F l.1 (Qk c l.2) (Qa l.2)
 else(QdD,Qg c 11 l.2)
theorem Qtw (hst:Qq F):Qe (Qfo c F r) (Q0 c F r):=by
 unfold Qfo Q0;simp only;generalize Qay c r=l;by_cases h1:Qd c [100,101,97,108] l.2=true
 . rw[Zn h1,Zn h1,Qvi,QcO h1];by_cases he:(QfD c F l.1 (Qk c l.2) (Qa l.2)).2.e=0
   . exact .inl ⟨he,rfl⟩
   . exact .inr ⟨he,rfl,rfl⟩
 . rw[Zm h1,Zm h1];by_cases h2:Qd c [116,117,114,110] l.2=true
   . rw[Zn h2,Zn h2,Qyh,QcO h2];by_cases he:(Qfw c F l.1 (Qk c l.2) (Qa l.2)).2.e=0
     . exact .inl ⟨he,rfl⟩
     . exact .inr ⟨he,rfl,rfl⟩
   . rw[Zm h2,Zm h2];by_cases h3:Qd c [101,110,100] l.2=true
     . rw[Zn h3];have e:(Qh c [101,110,100] l.2).2=Qa l.2:=by simp[Qh,h3]
       have e1:(Qh c [101,110,100] l.2).1=Qk c l.2:=rfl;simp only[e,e1];by_cases he:(Qgo c F l.1 (Qk c l.2) (Qa l.2)).2.e=0
       . exact .inl ⟨he,rfl⟩
       . exact .inr ⟨he,rfl,rfl⟩
     . rw[Zm h3];rw[Vi]at h3;have e:(Qh c [101,110,100] l.2).2=Qg c 11 l.2:=by simp[Qh,h3]
       simp only[e];by_cases he:l.2.e=0
       . have hb:(Qg c 11 l.2).e≠0:=by simp[Qg,he]
         refine .inr ⟨hb,?_,?_⟩<;>simp only[Q2 _ hb,Qhx hst _ hb]
       . rw[QeP he];refine .inr ⟨he,?_,?_⟩<;>simp only[Q2 _ he,Qhx hst _ he]
theorem QBe {o z S o' p':AO} {L:ZG} (hj:j<H.length):w2 (H.set j o++(z::S::L)) j (H.length+1) o' p'=H.set j o'++(z::p'::L):=by
 rw[w2,QaN hj,Yg _ _ (by simp)];simp
theorem J2.s1 {o z S:AO} {L:ZG} (hj:j<H.length):J2 (H.set j o++(z::S::L)) j (H.length+1):=⟨by simp; omega,by simp,by omega⟩
theorem Qt.s1 {o:AO} {L H':ZG} (h:Qt (H.set j o++L) [j,H.length+1] H'):Qt H [j] H':=by
 refine⟨Vg (by simp) h.len,λi hi hn => ?_⟩;simp only[Ve,VC,Zu]at hn;rw[h.at_ i (by simp; omega) (by simp[hn]; omega),Vc (by simpa using hi),Vf (Ne.symm hn)]
theorem QjI {o z S:AO} {L:ZG} {ks:ZI} {vs:ZH} {T v:Nat}:SV.mapOf (H.set j o++(z::S::(L++[⟨.mk ks::vs,T,v,false⟩]))) (.mp (H.length+(L.length+2)) v)=some (ks,vs):=by
 have h:(H.set j o++(z::S::(L++[⟨.mk ks::vs,T,v,false⟩])))[H.length+(L.length+2)]? = some ⟨.mk ks::vs,T,v,false⟩:=by
  rw[Vk (by simp)];simp
 simp only[SV.mapOf,h];rw[Zn ⟨Zo,Zo⟩]
def knK:ZI:=[.string ⟨#[100,101,97,108]⟩,.string ⟨#[116,117,114,110]⟩,.string ⟨#[101,110,100]⟩]
def knV:ZH:=[.fn (.func 147) [] [],.fn (.func 148) [] [],.fn (.func 149) [] []]
def knM:AO:=⟨.mk knK::knV,184,0,false⟩
theorem QAx (s:ZE):lkm (.string (B s)) knK knV=if s=[100,101,97,108]then some (.fn (.func 147) [] [])else if s=[116,117,114,110]then some (.fn (.func 148) [] [])else if s=[101,110,100]then some (.fn (.func 149) [] [])else none:=by
 have e1:(⟨#[100,101,97,108]⟩:ByteArray)=B [100,101,97,108]:=rfl;have e2:(⟨#[116,117,114,110]⟩:ByteArray)=B [116,117,114,110]:=rfl;have e3:(⟨#[101,110,100]⟩:ByteArray)=B [101,110,100]:=rfl;simp only[knK,knV,e1,e2,e3,lkm,QaF];by_cases h1:s=[100,101,97,108]
 . simp[h1]
 . by_cases h2:s=[116,117,114,110]
   . simp[h2]
   . by_cases h3:s=[101,110,100]
     . simp[h3]
     . simp[h1,h2,h3]
theorem QvC (x:Qb):(Qb.cN x).length=12:=rfl
theorem Qv5 (x:Qb):List.take 12 (Qb.cN x)=Qb.cN x:=rfl
theorem QwP (x:Qb):QC (Qb.cN x):=by
 intro s hs;simp[Qb.cN]at hs;rcases hs with rfl|rfl|rfl|rfl|rfl|rfl|rfl|rfl|rfl|rfl|rfl|rfl<;>simp
theorem Qt8 (n:Nat) (x:Qb):SV.underL n (Qb.cN x)=true:=by simp[Qb.cN,SV.underL]
theorem QuY (hn:QY c) (h20:c.ts.length<=20000) (hj:j<H.length) (hcl:closed H) {d:Nat} (hF:PdC c 32 [] F d) (hkF:Kp c d F) (hst:Qq F) (hnb:Nb c F) (hg:Gd c d r) (he:r.e=0) {lb:ZE} {L:ZG} {env:Env} {res:Qb×Rd}
 (hres:(if Qd c [100,101,97,108] r=true then QfD c F lb (Qk c r) (Qa r)else if Qd c [116,117,114,110] r=true then Qfw c F lb (Qk c r) (Qa r)else if Qd c [101,110,100] r=true then Qgo c F lb (Qk c r) (Qa r)else(QdD,Qg c 11 r))=res)
 (h0:env.get 0=rp j) (h2:env.get 2=rp H.length) (h3:env.get 3=rp (H.length+1)) :
 X Tryz.prog Tryz.f94.ntmps Qf (IC.tl 3 i94) env (H.set j (pdO c r)++(zS::lbO lb::L)) (FinP H.length r94 (PdV c H j QfB res)):=by
 have hct:c.ts.length<4611686018427387904:=by omega
 have h139:=λL=>Qes (QbU hj (pdO c r) L);rw[show IC.tl 3 i94=.seq (IC.nth 3 i94) (IC.tl 4 i94)from rfl,show IC.tl 4 i94=.seq (IC.nth 4 i94) (IC.tl 5 i94)from rfl];generalize ht5:IC.tl 5 i94=t5;simp -implicitDefEqProofs[IC.nth,i94];refine QbT (x:=([],[])) QjI rfl rfl rfl ?_;simp -implicitDefEqProofs[Q8,Q5,SV.key];refine QbT (x:=([.string ⟨#[100,101,97,108]⟩],[.fn (.func 147) [] []])) QjI rfl rfl rfl ?_;simp -implicitDefEqProofs[Q8,Q5,QaF,SV.key];refine QbT (x:=([.string ⟨#[100,101,97,108]⟩,.string ⟨#[116,117,114,110]⟩],[.fn (.func 147) [] [],.fn (.func 148) [] []])) QjI rfl rfl rfl ?_;simp -implicitDefEqProofs[Q8,Q5,QaF,SV.key,h0,rp];refine Qc (by simpa[rp]using h139 _) ?_;have hmp:∀ S,SV.mapOf (H.set j (pdO c r)++(zS::S::(L++[knM]))) (.mp (H.length+(L.length+2)) 0)=some (knK,knV):=λS=>QjI;simp only[knM,knK,knV]at hmp;have hlk:=QAx (tkR c r).tx;simp only[knK,knV]at hlk;have m1:(SV.mp (H.length+(L.length+2)) 0).ug=.mp (H.length+(L.length+2)) 0:=rfl;have m2:(SV.mp (H.length+(L.length+2)) 0).vd=true:=rfl;have q1:=QcS (c:=c) (r:=r) hn (s:=[100,101,97,108]) rfl he;have q2:=QcS (c:=c) (r:=r) hn (s:=[116,117,114,110]) rfl he;have q3:=QcS (c:=c) (r:=r) hn (s:=[101,110,100]) rfl he;rw[q1,q2,q3]at hres;simp only[Zq]at hres;have bad:∀ rf:Rd,rf.e≠0->res.2=rf->∀ H',Qt H [j] H'->PdV c H j QfB res (.pan (QV rf.e rf.p)) H':=by
  intro rf hf hs H' hk;rw[<-hs]at hf ⊢;exact PdV.pan hf hk
 simp -implicitDefEqProofs[Tok.v,Tok.c,QfK,QhL,hmp,hlk,m1,m2,h0,rp];have h79:=λL=>Qdg (QbU hj (pdO c r) L) 11;have h140:=λL (h:r.a<4611686018427387904)=>QfV (QbU hj (pdO c r) L) h;have fin:∀ (f:Nat) (env:Env) (q:Qb×Rd),q=res->r.a<c.ts.length->env.get 0=rp j->env.get 2=rp H.length->env.get 3=rp (H.length+1)->env.get 5=.fn (.func f) [] []->env.get 6=bl true ->
  (∀ G:ZG,J2 G j (H.length+1)->G[j]? = some (pdO c (Qa r))->G[H.length+1]? = some ⟨sC lb (Qk c r),78,0,true⟩->OkP Tryz.prog f [rp j,rp (H.length+1)] G (PdS c G j (H.length+1) q)) ->
  X Tryz.prog Tryz.f94.ntmps Qf t5 env (H.set j (pdO c r)++(zS::lbO lb::(L++[⟨.mk knK::knV,184,0,false⟩]))) (FinP H.length r94 (PdV c H j QfB res)):=by
  intro f env q hq hlt h0 h2 h3 h5 h6 hf;subst hq;rw[<-ht5];have hfG:=hf (H.set j (pdO c (Qa r))++(zS::⟨sC lb (Qk c r),78,0,true⟩::(L++[⟨.mk knK::knV,184,0,false⟩]))) (J2.s1 hj) (QbU hj _ _) (by simp);simp -implicitDefEqProofs[IC.tl,i94,r94,h0,h6,rp];refine Qc (by simpa[rp]using QnM (c:=c) hj r _) ?_;simp -implicitDefEqProofs[h0,h3,rp,lbO];refine Qc (by simpa[rp]using h140 _ (by omega)) ?_;rw[QaN hj];simp -implicitDefEqProofs[h0,h3,h5,rp];refine Q4 (by simpa[rp,sC]using hfG) ?_;intro o H' hp;unfold PdS at hp;by_cases he2:q.2.e=0
  . rw[Zn he2]at hp;obtain⟨rfl,rfl⟩:=hp;rw[QBe hj];have c1:=QvC q.1;have c2:=Qv5 q.1;have c3:=Zw (QwP q.1);simp -implicitDefEqProofs[h2,h3,rp,stO,zS,c1,c2,c3];refine⟨_,_,PdV.got (x:=q.1) he2 rfl rfl rfl,?_⟩;refine Cv.le (Qp (n0:=H.length) (r:=.agg (Qb.cN q.1)) 3 (QbN (c:=c) (a:=q.2.a) (v:=q.2.v) hcl) (by simp) ?_) (QfL (QzE _));exact Qc3 (by simp only[SV.under]; exact Qt8 _ _)
  . rw[Zm he2]at hp;obtain⟨rfl,hk⟩:=hp;simp -implicitDefEqProofs;exact⟨_,_,PdV.pan he2 hk.s1,Qi⟩
 have lt_of:∀ s:ZE,Qd c s r=true->r.a<c.ts.length:=λs h=>Qaj h;by_cases h1:(tkR c r).tx=[100,101,97,108]
 . rw[Zn h1]at hres;simp -implicitDefEqProofs[h1];refine⟨⟨rfl,rfl,rfl⟩,?_⟩;refine fin 147 _ _ hres (lt_of _ (by rw[q1]; simpa using h1)) ?_ ?_ ?_ ?_ ?_ (λG hJ hG1 hG2=>QAz hn h20 hJ hF hkF hst hG1 hG2 (hg.next (lt_of _ (by rw[q1]; simpa using h1))) he)
   all_goals simp[h0,h2,h3,rp]
 . rw[Zm h1]at hres;by_cases h2':(tkR c r).tx=[116,117,114,110]
   . rw[Zn h2']at hres;simp -implicitDefEqProofs[h2'];refine⟨⟨rfl,rfl,rfl⟩,?_⟩;refine fin 148 _ _ hres (lt_of _ (by rw[q2]; simpa using h2')) ?_ ?_ ?_ ?_ ?_ (λG hJ hG1 hG2=>QBd hn h20 hJ hF hkF hst hG1 hG2 (hg.next (lt_of _ (by rw[q2]; simpa using h2'))) he)
     all_goals simp[h0,h2,h3,rp]
   . rw[Zm h2']at hres;by_cases h3':(tkR c r).tx=[101,110,100]
     . rw[Zn h3']at hres;simp -implicitDefEqProofs[h3'];refine⟨⟨rfl,rfl,rfl⟩,?_⟩;refine fin 149 _ _ hres (lt_of _ (by rw[q3]; simpa using h3')) ?_ ?_ ?_ ?_ ?_ (λG hJ hG1 hG2=>QuS hn h20 hJ hF hkF hst hnb hG1 hG2 (hg.next (lt_of _ (by rw[q3]; simpa using h3'))) he)
       all_goals simp[h0,h2,h3,rp]
     . rw[Zm h3']at hres;have hb:(Qg c 11 r).e=11/\(Qg c 11 r).p=Qk c r:=by simp[Qg,he]
       rw[<-ht5];simp -implicitDefEqProofs[h1,h2',h3',IC.tl,i94,h0,rp];refine⟨⟨rfl,rfl,rfl⟩,?_⟩;have h79':=h79 (zS::lbO lb::(L++[knM]));simp only[knM,knK,knV,rp]at h79';refine Qc h79' ?_;simp -implicitDefEqProofs;have:=λH' hk=>bad (Qg c 11 r) (by rw[hb.1]; decide) (by rw[<-hres]) H' hk;rw[hb.1,hb.2]at this;exact⟨_,_,this _ (Qt.of_set (o:=pdO c r) (Qt.refl _ _)),Qi⟩
theorem Qvp (hn:QY c) (h20:c.ts.length<=20000) {d:Nat} (hF:PdC c 32 [] F d) (hkF:Kp c d F) (hst:Qq F) (hnb:Nb c F) (ho:H[j]? = some (pdO c r)) (hg:Gd c d r) (he:r.e=0):OkP Tryz.prog 94 [rp j] H (PdV c H j QfB (Qfo c F r)):=by
 have hj:=Qj ho;have hct:c.ts.length<4611686018427387904:=by omega
 have ha:=hg.a;refine Qa8 hm Tryz.func94 c94 (by simp[rp]) λhcl => ?_;have tail:∀ (lb:ZE) (r1:Rd) (L:ZG) (env:Env),Qay c r=(lb,r1)->Gd c d r1->r1.e=0->env.get 0=rp j->env.get 2=rp H.length->env.get 3=rp (H.length+1) ->
  X Tryz.prog Tryz.f94.ntmps Qf (IC.tl 3 i94) env (H.set j (pdO c r1)++(zS::lbO lb::L)) (FinP H.length r94 (PdV c H j QfB (Qfo c F r))):=by
  intro lb r1 L env hl hg1 he1 h0 h2 h3;exact QuY (lb:=lb) (L:=L) hn h20 hj hcl hF hkF hst hnb hg1 he1 (by unfold Qfo; rw[hl]) h0 h2 h3
 have hbad:∀ rf:Rd,rf.e≠0->(Qay c r).2=rf->∀ H',Qt H [j] H'->PdV c H j QfB (Qfo c F r) (.pan (QV rf.e rf.p)) H':=by
  intro rf hf hs H' hk;have:(Qfo c F r).2=rf:=by
   unfold Qfo;simp only[hs];rw[Zm (by rw[QaE hf]; decide),Zm (by rw[QaE hf]; decide),Zm (by rw[QaE hf]; decide)];exact QeP hf
  rw[<-this]at hf ⊢;exact PdV.pan hf hk
 have h92:=λL=>Qgp (H:=H++L) (c:=c) (r:=r) (j:=j) (by rw[Vc hj]; exact ho) he;have h88:=λL=>Qh5 (c:=c) (r:=r) hj (by omega) he L false;simp only[Qhw]at h88;rw[show i94=.seq (IC.nth 0 i94) (.seq (IC.nth 1 i94) (.seq (IC.nth 2 i94) (IC.tl 3 i94)))from rfl];generalize IC.tl 3 i94=t3 at tail ⊢;refine Xc (H':=H.set j (pdO c r)++[]) (by rw[VE]; exact QcI ho) ?_;have h92p:=λL=>Qgp (QbU hj (pdO c r) L) he;simp -implicitDefEqProofs[IC.nth,i94,rp];refine Qc (by simpa[rp]using h92p _) ?_;by_cases hp:QP c r=true
 . have hl:Qay c r=((QO c r).1,t2 c [58] (QO c r).2):=by unfold Qay; rw[Zn hp]
   have hg1:=(Qcf (c:=c) (d:=d) r hg).1;rw[hl]at tail hbad;simp -implicitDefEqProofs[hp];generalize QO c r=w at h88 hg1 tail hbad;refine Qaa (by simpa[rp]using h88 _) (λhe1 => ?_) (λhe1 H' hk => ?_)
   . rw[QaN hj];have hw:=QdX (H:=H) (j:=j) (r:=w.2) (L:=[zS,lbO w.1,⟨[st (B [58])],9,0,true⟩]) (q:=2) (n:=1) (T:=9) (ver:=0) (l:=[[58]]) hn hct hj (by simp[wds]) rfl (by simp) (by intro s hs; simp at hs; subst hs; rfl) he1 hg1.a;have hg2:=(QH (c:=c) (d:=d) [58] hg1).1;simp -implicitDefEqProofs;refine Qaa (by simpa[rp,zS,lbO]using hw) (λhe2 => ?_) (λhe2 H' hk => ?_)
     . rw[QaN hj];simp only[Qau]at he2 ⊢;simp -implicitDefEqProofs;refine Xc ?_ (tail w.1 (t2 c [58] w.2) [⟨[st (B [58])],9,0,true⟩] _ rfl hg2 he2 ?_ ?_ ?_)
       . simp[zS,lbO]
       all_goals simp[rp]
     . simp -implicitDefEqProofs;rw[Qau]at he2;exact⟨_,_,hbad _ he2 rfl _ hk.of_set,Qi⟩
   . simp -implicitDefEqProofs;exact⟨_,_,hbad _ he1 (Q2 _ he1) _ hk.of_set,Qi⟩
 . have hl:Qay c r=([],r):=by unfold Qay; rw[Zm hp]
   simp -implicitDefEqProofs[hp];refine Xc ?_ (tail [] r [] _ hl hg he ?_ ?_ ?_)
   . simp[zS,lbO]
   all_goals simp[rp]
theorem ok94 (hn:QY c) (h20:c.ts.length<=20000) {d:Nat} (hF:PdC c 32 [] F d) (hkF:Kp c d F) (hst:Qq F) (hnb:Nb c F) (ho:H[j]? = some (pdO c r)) (hg:Gd c d r) (he:r.e=0):OkP Tryz.prog 94 [rp j] H (PdV c H j QfB (Q0 c F r)) :=
 (Qvp hn h20 hF hkF hst hnb ho hg he).mono λo H' h=>h.eqv (Qtw hst)
end
theorem QqU:∀ (tx:ZE) (n:Int),0<=n->n<=1000000000->(∀ c∈tx,48<=c.toNat)->(Qax tx n).1=0->0<=(Qax tx n).2/\(Qax tx n).2<=1000000000
 |[],n,h1,h2,_,_=>⟨h1,h2⟩
 |c::r,n,h1,h2,hd,he=>by
  unfold Qax at he ⊢;split at he
  . cases he
  . rename_i hn;rw[Zm hn];have:=hd c (by simp);exact QqU r _ (by omega) (by omega) (λx hx=>hd x (by simp[hx])) he
theorem Qjh {l:ZE} {p q q':Nat} {k:Int} {t:Tok} (h:QQ l p k q=.tok t q'):t.n=(whE l k (cut l p q) p).2/\(whE l k (cut l p q) p).1=0:=by
 unfold QQ at h;split at h
 . cases h
 . rename_i hn
   cases h
   exact⟨rfl,Classical.byContradiction hn⟩
theorem QlS {l tx:ZE} {k:Int} {p:Nat} (hk:k≠2):(whE l k tx p).2=0:=by
 unfold whE;split
 . rfl
 . split
   . rfl
   . rfl
theorem QvN {l:ZE} {p q:Nat} {t:Tok} (h:Qy l p=.tok t q):0<=t.n/\t.n<=1000000000:=by
 unfold Qy at h;split at h
 . cases h
 . split at h
   . have:=(Qjh h).1; rw[QlS (by decide)]at this; omega
   . split at h
     . obtain⟨h1,h2⟩:=Qjh h;have hd:=Qk6 (l:=l) (p:=p);generalize cut l p (Qan l [3] p)=tx at h1 h2 hd;rw[h1];unfold whE at h2 ⊢;split at h2
       . cases h2
       . split at h2
         . cases h2
         . split at h2
           . rename_i h5; exact absurd rfl h5
           . split at h2
             . cases h2
             . rename_i a1 a2 a3 a4;rw[Zm a1,Zm a2,Zm a3,Zm a4];exact QqU tx 0 (by decide) (by decide) (λc hc=>(hd c hc).1) h2
     . split at h
       . have:=(Qjh h).1; rw[QlS (by decide)]at this; omega
       . split at h
         . cases h
         . have:=(Qjh h).1; rw[QlS (by decide)]at this; omega
def QfM (c:Cx):Prop:=∀ t∈c.ts,0<=t.n/\t.n<=1000000000
theorem tokN (l:ZE):QfM ⟨(Qv l).1,l.length⟩:=by
 intro t ht;simp only at ht;unfold Qv at ht;split at ht
 . simp at ht
 . split at ht
   . obtain⟨p,q,hp,hs⟩:=QkG _ _ ht;exact QvN hs
   . simp at ht
theorem QBo {c:Cx} (h:QfM c) (r:Rd):0<=(nmR c r).1/\(nmR c r).1<=1000000000:=by
 unfold nmR;split
 . rename_i hp;obtain⟨_,hlt,_⟩:=Qb4 hp;simp only[List.getD,Vd hlt,VX];exact h _ (Vu hlt)
 . simp
section
variable {H:ZG} {c:Cx} {r:Rd} {j:Nat}
theorem Qzu (hN:QfM c) (l:List Ql) (hp:Qd c [118,97,114] r=true) {w:ZE×Rd} (hw:Qbj c (decide (l.length=40)) (Qa r)=w) {f:Bool} (hf:Qd c [45] (t2 c [61] w.2)=f) {n:Int×Rd} (hn:nmR c (if f=true then Qa (t2 c [61] w.2)else t2 c [61] w.2)=n) :
 Qa7 c l r=(⟨w.1,if f=true then IntKind.i64.wrap (-n.1)else n.1,Qk c (Qa r)⟩,t2 c [59] n.2):=by
 have hh:Qk c (if l.length=40/\QP c (Qa r)=true then Qg c 12 (Qa r)else Qa r)=Qk c (Qa r):=by
  split
  . unfold Qg; split<;>rfl
  . rfl
 have hw':QO c (if l.length=40/\QP c (Qa r)=true then Qg c 12 (Qa r)else Qa r)=w:=by
  rw[<-hw]; unfold Qbj; simp only[Zq]
 have hr:=QBo hN (if f=true then Qa (t2 c [61] w.2)else t2 c [61] w.2);rw[hn]at hr;unfold Qa7;simp only[QcO hp,hh,hw']
 cases f with
 |true =>
  have hfl:QaK c [45] (t2 c [61] w.2)=(true,Qa (t2 c [61] w.2)):=by unfold QaK; rw[Zn hf,QcO hf]
  rw[Zn rfl]at hn;simp only[hfl,hn,Zs,Int.neg_one_mul]
 |false =>
  have hfl:QaK c [45] (t2 c [61] w.2)=(false,t2 c [61] w.2):=by unfold QaK; rw[Zm (by rw[hf]; decide)]
  rw[Zm (by decide)]at hn;have e:IntKind.i64.wrap n.1=n.1:=Qae (by omega) (by omega);simp[hfl,hn,e]
theorem Qgr {n:Nat} {l:List Ql} (h:r.e≠0):Q6 c n l r=(l,r):=by
 cases n with
 |zero=>rfl
 |succ n=>rw[Q6,Zm (by rw[QaE h]; decide)]
def Qaq (n:Nat) (nm:ZE) (pl:Int) (v s:Nat):AO:=⟨[st (B nm),i64 pl,.own (n+2) 0 v 3 v,.own (n+3) 0 s 12 s],36,0,true⟩
def rL (n:Nat) (nm:ZE) (pl:Int) (vs:List Ql) (ss:List Qb) (G:ZG):ZG:=zR::Qaq n nm pl vs.length ss.length::Qdo vs::Qdp ss::G
set_option maxHeartbeats 2000000 in
theorem QAY (hn:QY c) (hN:QfM c) (h20:c.ts.length<=20000) (hj:j<H.length) {d:Nat} {nm:ZE} {pl:Int} {N:Nat} {K:ZF} {res:List Ql×Rd}
 (hexit:res.2.e=0->Gd c d res.2->∀ env G,env.get 0=rp j->env.get 2=rp H.length->env.get 3=rp (H.length+1)->K (.exit 0) env (H.set j (pdO c res.2)++rL H.length nm pl res.1 [] G))
 (hpan:res.2.e≠0->∀ env H',Qt H [j] H'->K (.panic (QV res.2.e res.2.p)) env H') :
 ∀ (n:Nat) (l:List Ql) (r:Rd) (G:ZG) (env:Env),c.ts.length<=r.a+n->l.length<=r.a->Q6 c n l r=res->Gd c d r->r.e=0->env.get 0=rp j->env.get 2=rp H.length->env.get 3=rp (H.length+1) ->
  LI Tryz.prog N Qf Qgz env (H.set j (pdO c r)++rL H.length nm pl l [] G) K:=by
 have hct:c.ts.length<4611686018427387904:=by omega
 have out:∀ (l:List Ql) (r:Rd) (G:ZG) (env:Env),Qd c [118,97,114] r=false->(l,r)=res->Gd c d r->r.e=0->env.get 0=rp j->env.get 2=rp H.length->env.get 3=rp (H.length+1) ->
  LI Tryz.prog N Qf Qgz env (H.set j (pdO c r)++rL H.length nm pl l [] G) K:=by
  intro l r G env hp hr hg he h0 h2 h3;refine Qu hm Qgz.eq_1 ?_;have h90:=λL=>Qh4 (c:=c) (r:=r) hn hj (by have:=hg.a; omega) he L (s:=[118,97,114]) rfl;simp -implicitDefEqProofs[h0,h2,h3,rp];refine Qc (by simpa[rp]using h90 _) ?_;simp only[Q9,hp];simp -implicitDefEqProofs[h0,h2,h3];subst hr;exact hexit he hg _ G (by simp) (by simp) (by simp)
 intro n
 induction n with
 |zero =>
  intro l r G env hna hla hr hg he h0 h2 h3;exact out l r G env (by rw[<-Vi]; intro h; have:=Qaj h; omega) hr hg he h0 h2 h3
 |succ n ih =>
  intro l r G env hna hla hr hg he h0 h2 h3;rw[Q6]at hr;by_cases hp:Qd c [118,97,114] r=true
  . rw[Zn hp]at hr;have ha:=hg.a;have hg1:=hg.next (Qaj hp)
    have he1:(Qa r).e=0:=he;obtain⟨k1,k2⟩:=Qou (c:=c) (d:=d) l r hg;have k3:=QuP (c:=c) (d:=d) l hg;have hveq:=λw (hw:Qbj c (decide (l.length=40)) (Qa r)=w) f hf n hn=>Qzu (c:=c) (r:=r) hN l hp (w:=w) hw (f:=f) hf (n:=n) hn;have hd:(decide ((l.length:Int)=40))=decide (l.length=40):=by rw[ZC]; omega
    have h90:=λL=>Qh4 (c:=c) (r:=r) hn hj (by omega) he L (s:=[118,97,114]) rfl;have h88:=λL=>Qh5 (c:=c) (r:=Qa r) hj (by have:=hg1.a; omega) he1 L (decide (l.length=40));have hgw:=(Qre (decide (l.length=40)) hg1).1;refine Qu hm Qgz.eq_1 ?_;simp -implicitDefEqProofs[h0,h2,h3,rp];refine Qc (by simpa[rp]using h90 _) ?_;simp only[Q9,hp,Zs];simp -implicitDefEqProofs[h0,h2,h3,rp];refine Qc (by simpa[rp]using QnM (c:=c) hj (Qa r) _) ?_;simp -implicitDefEqProofs[h0,h2,h3,rp,rL,Qaq,hd];generalize Qbj c (decide (l.length=40)) (Qa r)=w at h88 hgw hveq;have hveq:=hveq w rfl;have bad:∀ rf:Rd,rf.e≠0->(Qa7 c l r).2=rf->∀ env H',Qt H [j] H'->K (.panic (QV rf.e rf.p)) env H':=by
     intro rf hf hs env H' hk;rw[Qgr (by rw[hs]; exact hf),hs]at hr;subst hr;exact hpan hf _ _ hk
    refine Qaa (by simpa[rp]using h88 _) (λhe2 => ?_) (λhe2 H' hk => ?_)
    . rw[QaN hj];have hg2:=(QH (c:=c) (d:=d) [61] hgw).1;have hw:=QdX (H:=H) (j:=j) (r:=w.2) (L:=zR::Qaq H.length nm pl l.length 0::Qdo l::Qdp []::(G++[⟨[st (B w.1),i64 0,i64 (Qk c (Qa r))],75,0,true⟩,⟨[st (B [61])],9,0,true⟩])) (q:=G.length+1+4) (n:=1) (T:=9) (ver:=0) (l:=[[61]]) hn hct hj (by simp[wds]) rfl (by simp) (by intro s hs; simp at hs; subst hs; rfl) he2 hgw.a;simp -implicitDefEqProofs[h0,h2,h3,rp];refine Qaa (by simpa[rp,Qaq]using hw) (λhe3 => ?_) (λhe3 H' hk => ?_)
      . rw[QaN hj];simp only[Qau]at he3 ⊢;generalize t2 c [61] w.2=r3 at hg2 he3 hveq ⊢;have ha3:=hg2.a;have h90:=λL=>Qh4 (c:=c) (r:=r3) hn hj (by omega) he3 L (s:=[45]) rfl;have hga:Gd c d (Q9 c [45] r3):=by
         unfold Q9; split
         . rename_i h; exact hg2.next (Qaj h)
         . exact hg2
        have hea:(Q9 c [45] r3).e=0:=by unfold Q9; split<;>exact he3
        have hveq:=λn=>hveq (Qd c [45] r3) rfl n;rw[<-QzB]at hveq;simp -implicitDefEqProofs[h0,h2,h3,rp];refine Qc (by simpa[rp]using h90 _) ?_;generalize Q9 c [45] r3=r4 at hga hea hveq ⊢;generalize Qd c [45] r3=f at hveq ⊢;have h89:=λL=>Qoh (c:=c) (r:=r4) hj (by have:=hga.a; omega) hea L false;simp only[QhG]at h89;have hg4:=(Qcc (c:=c) (d:=d) r4 hga).1;simp -implicitDefEqProofs[h0,h2,h3,rp];generalize nmR c r4=q at h89 hg4 hveq;have hveq:=hveq q rfl;refine Qaa (by simpa[rp]using h89 _) (λhe4 => ?_) (λhe4 H' hk => ?_)
        . rw[QaN hj];have fin:∀ (N1:Int),N1=(if f=true then IntKind.i64.wrap (-q.1)else q.1)->OkP Tryz.prog 87 [rp j,.own (H.length+(G.length+6)) 0 1 1 0] (H.set j (pdO c q.2)++zR::Qaq H.length nm pl l.length 0::Qdo l::Qdp []::(G++[⟨[st (B w.1),i64 N1,i64 (Qk c (Qa r))],75,0,true⟩,⟨[st (B [61])],9,0,true⟩,⟨[st (B [59])],9,0,true⟩])) (PdV c (H.set j (pdO c q.2)++zR::Qaq H.length nm pl l.length 0::Qdo l::Qdp []::(G++[⟨[st (B w.1),i64 N1,i64 (Qk c (Qa r))],75,0,true⟩,⟨[st (B [61])],9,0,true⟩,⟨[st (B [59])],9,0,true⟩])) j (λ_:Unit=>.tup []) ((),QcC c [[59]] q.2)):=by
           intro N1 _;exact QdX (H:=H) (j:=j) (r:=q.2) (q:=G.length+2+4) (n:=1) (T:=9) (ver:=0) (l:=[[59]]) hn hct hj (by simp[wds]) rfl (by simp) (by intro s hs; simp at hs; subst hs; rfl) he4 hg4.a
          have nxt:∀ (N1:Int) (env:Env) (G':ZG),N1=(if f=true then IntKind.i64.wrap (-q.1)else q.1)->(t2 c [59] q.2).e=0->env.get 0=rp j->env.get 2=rp H.length->env.get 3=rp (H.length+1) ->
           LI Tryz.prog N Qf Qgz env (H.set j (pdO c (t2 c [59] q.2))++zR::Qaq H.length nm pl (l.length+1) 0::⟨rws Ql.c l++[st (B w.1),i64 N1,i64 (Qk c (Qa r))],75,l.length+1,true⟩::Qdp []::G') K:=by
           intro N1 env G' hN1 he5 h0 h2 h3;have hs5:(Qa7 c l r).2.e=0:=by rw[hveq]; exact he5
           have k3':=k3 hs5;refine LI.cong ?_ (ih (l++[(Qa7 c l r).1]) (Qa7 c l r).2 G' env (by omega) (by simp; omega) hr k1 hs5 h0 h2 h3);rw[hveq,<- hN1];simp[rL,Qaq,Qdo,Qgk,rws,Ql.c]
          have bad5:(t2 c [59] q.2).e≠0->∀ env H',Qt H [j] H'->K (.panic (QV (t2 c [59] q.2).e (t2 c [59] q.2).p)) env H':=λh=>bad _ h (by rw[hveq])
          cases f with
          |true =>
           simp -implicitDefEqProofs[h0,h2,h3,rp];refine Qaa (by simpa[rp,Qaq]using fin (IntKind.i64.wrap (-q.1)) (by simp)) (λhe5 => ?_) (λhe5 H' hk => ?_)
           . rw[QaN hj];simp only[Qau]at he5 ⊢;simp -implicitDefEqProofs[h0,h2,h3,rp,Qdo,QaI Ql.c_len];refine⟨by omega,by omega,?_⟩;refine LI.cong ?_ (nxt (IntKind.i64.wrap (-q.1)) _ (G++[⟨[st (B w.1),i64 (IntKind.i64.wrap (-q.1)),i64 (Qk c (Qa r))],75,0,true⟩,⟨[st (B [61])],9,0,true⟩,⟨[st (B [59])],9,0,true⟩,⟨[st (B w.1),i64 (IntKind.i64.wrap (-q.1)),i64 (Qk c (Qa r))],75,0,true⟩]) (by simp) he5 ?_ ?_ ?_)
             . simp[Qaq]
             all_goals simp[rp]
           . simp -implicitDefEqProofs;rw[Qau]at he5;exact bad5 he5 _ _ hk.of_set
          |false =>
           simp -implicitDefEqProofs[h0,h2,h3,rp];refine Qaa (by simpa[rp,Qaq]using fin q.1 (by simp)) (λhe5 => ?_) (λhe5 H' hk => ?_)
           . rw[QaN hj];simp only[Qau]at he5 ⊢;simp -implicitDefEqProofs[h0,h2,h3,rp,Qdo,QaI Ql.c_len];refine⟨by omega,by omega,?_⟩;refine LI.cong ?_ (nxt q.1 _ (G++[⟨[st (B w.1),i64 q.1,i64 (Qk c (Qa r))],75,0,true⟩,⟨[st (B [61])],9,0,true⟩,⟨[st (B [59])],9,0,true⟩,⟨[st (B w.1),i64 q.1,i64 (Qk c (Qa r))],75,0,true⟩]) (by simp) he5 ?_ ?_ ?_)
             . simp[Qaq]
             all_goals simp[rp]
           . simp -implicitDefEqProofs;rw[Qau]at he5;exact bad5 he5 _ _ hk.of_set
        . simp -implicitDefEqProofs;exact bad _ he4 (by rw[hveq]; exact Q2 _ he4) _ _ hk.of_set
      . simp -implicitDefEqProofs;rw[Qau]at he3;have h2':=hveq false (QaE he3 _) (nmR c (t2 c [61] w.2)) (by rw[Zm (by decide)]);exact bad _ he3 (by rw[h2']; simp only[Qch _ he3,Q2 _ he3]) _ _ hk.of_set
    . simp -implicitDefEqProofs;have ht:t2 c [61] w.2=w.2:=Q2 _ he2;have h2':=hveq false (by rw[ht]; exact QaE he2 _) (nmR c w.2) (by rw[Zm (by decide),ht]);exact bad _ he2 (by rw[h2']; simp only[Qch _ he2,Q2 _ he2]) _ _ hk.of_set
  . rw[Zm hp]at hr;rw[Vi]at hp;exact out l r G env hp hr hg he h0 h2 h3
end
section
variable {H:ZG} {c:Cx} {r:Rd} {j:Nat} {F:Rd->Ex×Rd}
def QeR (c:Cx) (r:Rd):Bool:=QP c r||Qd c [100,101,97,108] r||Qd c [116,117,114,110] r||Qd c [101,110,100] r
theorem QqS (l:List Qb):QaR c l r=if l.length=100/\QeR c r=true then Qg c 12 r else r:=rfl
theorem Qyv (hst:Qq F) (he:r.e=0) (hb:QeR c r=false):(Q0 c F r).2=Qg c 11 r:=by
 unfold QeR at hb;simp only[Y7]at hb;obtain⟨⟨⟨h1,h2⟩,h3⟩,h4⟩:=hb;have hl:Qay c r=([],r):=by unfold Qay; rw[Zm (by simp[h1])]
 have hbad:(Qg c 11 r).e≠0:=by simp[Qg,he]
 have ht:(Qh c [101,110,100] r).2=Qg c 11 r:=by simp[Qh,h4]
 unfold Q0;simp only[hl];rw[Zm (by simp[h2]),Zm (by simp[h3])];simp only[ht,Q2 _ hbad,Qhx hst _ hbad]
theorem QeO {n:Nat} {l:List Qb} (h:r.e≠0):QF c F n l r=(l,r):=by
 cases n with
 |zero=>rfl
 |succ n=>rw[QF,Zm (λh2=>h h2.1)]
theorem isB (hn:QY c) (he:r.e=0):decide ((tkR c r).tx∈([[100,101,97,108],[116,117,114,110],[101,110,100]]:ZD))=(Qd c [100,101,97,108] r||Qd c [116,117,114,110] r||Qd c [101,110,100] r):=by
 rw[QcS hn (s:=[100,101,97,108]) rfl he,QcS hn (s:=[116,117,114,110]) rfl he,QcS hn (s:=[101,110,100]) rfl he,Bool.eq_iff_iff];simp[or_assoc]
def k39:IC:=match QdY with|.keep _ a=>a|a=>a
def b39:IC:=match IC.nth 1 k39 with|.blk _ a=>a|a=>a
set_option maxHeartbeats 4000000 in
theorem QAX (hn:QY c) (h20:c.ts.length<=20000) (hj:j<H.length) {d:Nat} (hF:PdC c 32 [] F d) (hkF:Kp c d F) (hst:Qq F) (hnb:Nb c F) {nm:ZE} {pl:Int} {vs:List Ql} {N:Nat} {K:ZF} {res:List Qb×Rd}
 (hexit:res.2.e=0->res.1≠[]->c.ts.length<=res.2.a->Gd c d res.2->∀ env G,env.get 2=rp H.length->env.get 3=rp (H.length+1)->K (.exit 2) env (H.set j (pdO c res.2)++rL H.length nm pl vs res.1 G))
 (hpan:res.2.e≠0->∀ env H',Qt H [j] H'->K (.panic (QV res.2.e res.2.p)) env H') :
 ∀ (n:Nat) (l:List Qb) (r:Rd) (G:ZG) (env:Env),c.ts.length<r.a+n->l.length<=r.a->QF c F n l r=res->Gd c d r->r.e=0->env.get 0=rp j->env.get 2=rp H.length->env.get 3=rp (H.length+1) ->
  LI Tryz.prog N Qf QdY env (H.set j (pdO c r)++rL H.length nm pl vs l G) K:=by
 have hct:c.ts.length<4611686018427387904:=by omega
 intro n
 induction n with
 |zero=>intro l r G env hna hla hr hg; have:=hg.a; omega
 |succ n ih =>
  intro l r G env hna hla hr hg he h0 h2 h3;have ha:=hg.a;rw[QF]at hr;have hcode:QdY=.keep [0,2,3] (.seq (IC.nth 0 k39) (IC.nth 1 k39)):=rfl;refine Qu hm hcode ?_;generalize hK:(λ(x:XE) (env:Env) (H:ZG)=>match x with|.normal=>LI Tryz.prog N Qf QdY env H K|x=>K x env H)=K'
  have hKn:∀ env H,K' .normal env H=LI Tryz.prog N Qf QdY env H K:=λenv H=>by rw[<-hK]
  have hKp:∀ x env H,K' (.panic x) env H=K (.panic x) env H:=λx env H=>by rw[<-hK]
  have hKe:∀ n env H,K' (.exit n) env H=K (.exit n) env H:=λn env H=>by rw[<-hK]
  clear hK;have e3:∀ L,Qn (H.set j (pdO c r)++L) j 0=pdC c r.a r.v:=λL=>ocL (H:=H) hj _ 127 L;have pd1:∀ h,(pdC c r.a r.v)[1]'(h)=i64 r.a:=λ_=>rfl;have pd0:(pdC c r.a r.v).head?.getD .any=Qbc c.ts:=rfl;by_cases hcond:l=[]\/r.a<c.ts.length
  . rw[Zn ⟨he,hcond⟩]at hr;have body:∀ (env:Env),env.get 0=rp j->env.get 2=rp H.length->env.get 3=rp (H.length+1)->X Tryz.prog N Qf (IC.nth 1 k39) env (H.set j (pdO c r)++rL H.length nm pl vs l G) K':=by
     intro env h0 h2 h3;have h92:=λL=>Qgp (QbU hj (pdO c r) L) he;have h79:=λL e=>Qdg (QbU hj (pdO c r) L) e;have h94:=λL=>ok94 hn h20 hF hkF hst hnb (QbU hj (pdO c r) L) hg he;have hfe:=QqS (c:=c) (r:=r) l;have hsn:=Qyv (c:=c) (r:=r) hst he;obtain⟨k1,k2⟩:=QrY (c:=c) hkF r hg;have k3:=QpL (c:=c) hkF hg;have bad:∀ rf:Rd,rf.e≠0->(Q0 c F (QaR c l r)).2=rf->∀ env H',Qt H [j] H'->K (.panic (QV rf.e rf.p)) env H':=by
      intro rf hf hs env H' hk;rw[hs,QeO hf]at hr;subst hr;exact hpan hf _ _ hk
     have f11:(Qg c 11 r).e=11/\(Qg c 11 r).p=Qk c r:=by simp[Qg,he]
     have f12:(Qg c 12 r).e=12/\(Qg c 12 r).p=Qk c r:=by simp[Qg,he]
     have hcode2:IC.nth 1 k39=.blk 3 (.seq (IC.nth 0 b39) (IC.tl 1 b39)):=rfl;rw[hcode2,Qsf];generalize hB:(λ(x:XE) (env:Env) (H:ZG)=>match x with|.exit id=>if id=3 then K' .normal env H else K' (.exit id) env H|x=>K' x env H)=K''
     have hKn':∀ env H,K'' .normal env H=K' .normal env H:=λenv H=>by rw[<-hB]
     have hKp':∀ x env H,K'' (.panic x) env H=K' (.panic x) env H:=λx env H=>by rw[<-hB]
     clear hB;have rest:∀ (env:Env) (G:ZG),QeR c r=true->env.get 0=rp j->env.get 2=rp H.length->env.get 3=rp (H.length+1) ->
      X Tryz.prog N Qf (IC.tl 1 b39) env (H.set j (pdO c r)++rL H.length nm pl vs l G) K'':=by
      intro env G hb h0 h2 h3;simp -implicitDefEqProofs[IC.tl,b39,k39,QdY,IC.nth,h0,h3,rp,rL,Qaq];by_cases h100:l.length=100
      . have h100':(l.length:Int)=100:=by omega
        simp -implicitDefEqProofs[h100'];refine Qc (by simpa[rp,Qaq]using h79 _ 12) ?_;simp -implicitDefEqProofs;rw[hKp',hKp];have:=bad (Qg c 12 r) (by rw[f12.1]; decide) (by rw[hfe,Zn ⟨h100,hb⟩]; exact Qk0 hst _ (by rw[f12.1]; decide));rw[f12.1,f12.2]at this;exact this _ _ (Qt.of_set (Qt.refl _ _))
      . have h100':¬ (l.length:Int)=100:=by omega
        rw[Zm (λh=>h100 h.1)]at hfe;rw[hfe]at bad hr;simp -implicitDefEqProofs[h100'];generalize Q0 c F r=x at h94 k1 k2 k3 bad hr;refine Qaa (by simpa[rp]using h94 _) (λhe1 => ?_) (λhe1 H' hk => ?_)
        . rw[QaN hj];simp -implicitDefEqProofs[h3,rp,QfB,Qdp,QaI Qb.c_len];refine⟨by omega,by omega,?_⟩;rw[hKn',hKn];have k3':=k3 he1;refine LI.cong ?_ (ih (l++[x.1]) x.2 (G++[⟨x.1.c,78,0,true⟩]) _ (by omega) (by simp; omega) hr k1 he1 ?_ ?_ ?_)
          . simp[rL,Qaq,Qdp,Qgk,rws]
          all_goals simp[h0,h2,h3,rp]
        . simp -implicitDefEqProofs;rw[hKp',hKp];exact bad _ he1 rfl _ _ hk.of_set
     generalize IC.tl 1 b39=t1 at rest ⊢;simp -implicitDefEqProofs[IC.nth,b39,k39,QdY,h0,rp,rL,Qaq];refine Qc (by simpa[rp,Qaq]using h92 _) ?_;by_cases hf:QP c r=true
     . simp -implicitDefEqProofs[h0,rp,hf];refine Qcg _ _ _ _ ?_;simp -implicitDefEqProofs[hf];refine Xc rfl (rest _ G (by simp[QeR,hf]) ?_ ?_ ?_);all_goals simp[h0,h2,h3,rp]
     . rw[Vi]at hf;have h93:=Qfs (QbU hj (pdO c r) (zR::Qaq H.length nm pl vs.length l.length::Qdo vs::Qdp l::(G++[⟨[st (B [100,101,97,108]),st (B [116,117,114,110]),st (B [101,110,100])],9,0,true⟩]))) (x:=.own (H.length+(G.length+4)) 0 3 1 0) (l:=[[100,101,97,108],[116,117,114,110],[101,110,100]]) (by
        have:=IsS.own1 (H:=H.set j (pdO c r)) (L:=zR::Qaq H.length nm pl vs.length l.length::Qdo vs::Qdp l::(G++[⟨[st (B [100,101,97,108]),st (B [116,117,114,110]),st (B [101,110,100])],9,0,true⟩])) (k:=G.length+4) (T:=9) (ver:=0) (n:=3) (l:=[[100,101,97,108],[116,117,114,110],[101,110,100]]) (by simp[wds]) rfl;simpa using this) (by simp)
       rw[isB hn he]at h93;have hbe:QeR c r=(Qd c [100,101,97,108] r||Qd c [116,117,114,110] r||Qd c [101,110,100] r):=by unfold QeR; rw[hf]; simp
       rw[<-hbe]at h93;simp -implicitDefEqProofs[h0,rp,hf];refine QZ (r:=bl (QeR c r)) (λ_=>by simpa[rp,Qaq,SV.strip]using h93) ?_
       cases hb:QeR c r with
       |true =>
        simp -implicitDefEqProofs[hf];refine Xc ?_ (rest _ (G++[⟨[st (B [100,101,97,108]),st (B [116,117,114,110]),st (B [101,110,100])],9,0,true⟩]) hb ?_ ?_ ?_)
        . simp[rL,Qaq]
        all_goals simp[h0,h2,h3,rp]
       |false =>
        simp -implicitDefEqProofs[h0,rp,hf];refine Qc (by simpa[rp,Qaq]using h79 _ 11) ?_;simp -implicitDefEqProofs;rw[hKp',hKp];have:=bad (Qg c 11 r) (by rw[f11.1]; decide) (by rw[hfe,Zm (by simp[hb])]; exact hsn hb);rw[f11.1,f11.2]at this;exact this _ _ (Qt.of_set (Qt.refl _ _))
    generalize IC.nth 1 k39=B1 at body ⊢;by_cases hl0:l=[]
    . subst hl0;simp -implicitDefEqProofs[IC.nth,k39,QdY,h0,h2,h3,rp,rL,Qaq,e3,pd1,pd0,QgO];exact body _ (by simp[rp]) (by simp[rp]) (by simp[rp])
    . have hlt:=hcond.resolve_left hl0;have hlt':(r.a:Int)<c.ts.length:=by omega
      simp -implicitDefEqProofs[IC.nth,k39,QdY,h0,h2,h3,rp,rL,Qaq,e3,pd1,pd0,QgO,hl0,hlt',Qbc];exact body _ (by simp[rp]) (by simp[rp]) (by simp[rp])
  . rw[Zm (λh=>hcond h.2)]at hr;have hl0:l≠[]:=λh=>hcond (.inl h);have hge:¬ r.a<c.ts.length:=λh=>hcond (.inr h);have hge':¬ (r.a:Int)<c.ts.length:=by omega
    subst hr;generalize IC.nth 1 k39=B1;simp -implicitDefEqProofs[IC.nth,k39,QdY,h0,h2,h3,rp,rL,Qaq,e3,pd1,pd0,QgO,hl0,hge',Qbc];rw[hKe];refine hexit he hl0 (Nat.not_lt.1 hge) hg _ G ?_ ?_<;>simp[rp]
end
section
variable {H:ZG} {c:Cx} {r:Rd} {j:Nat} {F:Rd->Ex×Rd} {nm:ZE} {pl:Int}
theorem QzQ {o:AO} (hcl:closed (H.set j o)) {vs:List Ql} {ss:List Qb} {z:AO} {G:ZG} :
 Cv H.length (.agg [st (B nm),i64 pl,.own (H.length+2) 0 vs.length 3 vs.length,.own (H.length+3) 0 ss.length 12 ss.length]) (H.set j o++(z::Qaq H.length nm pl vs.length ss.length::Qdo vs::Qdp ss::G)) (Qby ⟨nm,pl,vs,ss⟩) (H.set j o):=by
 refine Qp (n0:=H.length) 4 hcl (by simp) ?_;have e1:(rws Ql.c vs).take (vs.length*3)=rws Ql.c vs:=VD (by rw[QaI Ql.c_len]; exact Vb _);have e2:(rws Qb.c ss).take (ss.length*12)=rws Qb.c ss:=VD (by rw[QaI Qb.c_len]; exact Vb _);have m1:∀ L d,(rws Ql.c vs).map (SV.fz H.length [] L (d+1))=rws Ql.c vs:=λL d=>QcM _ _ _ _ (Qe2 (Ql.und _) vs);have m2:∀ L d,(rws Qb.c ss).map (SV.fz H.length [] L (d+1))=rws Qb.c ss:=λL d=>QcM _ _ _ _ (Qe2 (Qb.und _) ss);simp[Qby,Qx.c,Qdo,Qdp,QaI Ql.c_len,QaI Qb.c_len,e1,e2,m1,m2]
theorem QAB (hj:j<H.length) (hcl:closed H) (he:r.e=0) {vs:List Ql} {ss:List Qb} {G:ZG} {env:Env} {res:Qx×Rd} (hres:(⟨nm,pl,vs,ss⟩,r)=res) (h2:env.get 2=rp H.length) (h3:env.get 3=rp (H.length+1)) :
 X Tryz.prog Tryz.f39.ntmps Qf (IC.tl 9 i39) env (H.set j (pdO c r)++rL H.length nm pl vs ss G) (FinP H.length r39 (PdV c H j Qby res)):=by
 subst hres;simp[IC.tl,i39,r39,h2,h3,rp,rL,Qaq,zR];refine⟨_,_,PdV.got (x:=⟨nm,pl,vs,ss⟩) he rfl rfl rfl,?_⟩;have hc1:closed (H.set j (pdO c r)):=QbN (c:=c) (a:=r.a) (v:=r.v) hcl;have:=QzQ (nm:=nm) (pl:=pl) (vs:=vs) (ss:=ss) (z:=⟨[st (B nm),i64 pl,.own (H.length+2) 0 vs.length 3 vs.length,.own (H.length+3) 0 ss.length 12 ss.length],36,0,true⟩) (G:=G) hc1;simpa[Qaq]using this
theorem Qzy (hn:QY c) (hN:QfM c) (h20:c.ts.length<=20000) (hj:j<H.length) (hcl:closed H) {d:Nat} (hF:PdC c 32 [] F d) (hkF:Kp c d F) (hst:Qq F) (hnb:Nb c F) (hg:Gd c d r) (he:r.e=0) {G:ZG} {env:Env} {res:Qx×Rd}
 (hres:(λv:List Ql×Rd=>(λs:List Qb×Rd=>((⟨nm,pl,v.1,s.1⟩,s.2):Qx×Rd)) (QF c F (c.ts.length+1) [] v.2)) (Q6 c c.ts.length [] r)=res)
 (h0:env.get 0=rp j) (h2:env.get 2=rp H.length) (h3:env.get 3=rp (H.length+1)) :
 X Tryz.prog Tryz.f39.ntmps Qf (IC.tl 7 i39) env (H.set j (pdO c r)++rL H.length nm pl [] [] G) (FinP H.length r39 (PdV c H j Qby res)):=by
 have tail:∀ (vs:List Ql) (ss:List Qb) (r:Rd) (G:ZG) (env:Env),r.e=0->(⟨nm,pl,vs,ss⟩,r)=res->env.get 2=rp H.length->env.get 3=rp (H.length+1)->_:=λvs ss r G env he hr h2 h3=>QAB (c:=c) (r:=r) (G:=G) hj hcl he hr h2 h3;rw[show IC.tl 7 i39=.seq (IC.nth 7 i39) (IC.tl 8 i39)from rfl,show IC.tl 8 i39=.seq (IC.nth 8 i39) (IC.tl 9 i39)from rfl];generalize IC.tl 9 i39=t9 at tail ⊢;have bad:∀ rf:Rd,rf.e≠0->res.2=rf->∀ H',Qt H [j] H'->PdV c H j Qby res (.pan (QV rf.e rf.p)) H':=by
  intro rf hf hs H' hk;rw[<-hs]at hf ⊢;exact PdV.pan hf hk
 dsimp only at hres;generalize hv:Q6 c c.ts.length [] r=v at hres;simp[IC.nth,i39];refine QAY hn hN h20 hj (res:=v) (λhv0 hgv env G h0 h2 h3 => ?_) (λhv0 env H' hk => ?_) c.ts.length [] r G env (by omega) (by simp) hv hg he h0 h2 h3
 . simp;generalize hs:QF c F (c.ts.length+1) [] v.2=s at hres;refine QAX hn h20 hj hF hkF hst hnb (res:=s) (λhs0 _ _ hgs env G h2 h3 => ?_) (λhs0 env H' hk => ?_) (c.ts.length+1) [] v.2 G env (by omega) (by simp) hs hgv hv0 h0 h2 h3
   . simp;exact tail v.1 s.1 s.2 G env hs0 hres h2 h3
   . simp;exact⟨_,_,bad s.2 hs0 (by rw[<-hres]) _ hk,Qi⟩
 . simp;refine⟨_,_,bad v.2 hv0 ?_ _ hk,Qi⟩;rw[<-hres,QeO hv0]
def Qc9 (c:Cx) (F:Rd->Ex×Rd) (r:Rd):Qx×Rd :=
 let w:=QO c (t2 c [103,97,109,101] r)
 let n:=nmR c (t2 c [112,108,97,121,101,114,115] (t2 c [59] w.2))
 let v:=Q6 c c.ts.length [] (t2 c [59] n.2)
 let s:=QF c F (c.ts.length+1) [] v.2
 (⟨w.1,n.1,v.1,s.1⟩,s.2)
set_option maxHeartbeats 2000000 in
theorem QzS (hn:QY c) (hN:QfM c) (h20:c.ts.length<=20000) (hj:j<H.length) (hcl:closed H) {d:Nat} (hF:PdC c 32 [] F d) (hkF:Kp c d F) (hst:Qq F) (hnb:Nb c F) (hg:Gd c d r) (he:r.e=0) {env:Env} {res:Qx×Rd}
 (hres:Qc9 c F r=res) (h0:env.get 0=rp j) (h2:env.get 2=rp H.length) (h3:env.get 3=rp (H.length+1)) :
 X Tryz.prog Tryz.f39.ntmps Qf (IC.tl 2 i39) env (H.set j (pdO c r)++rL H.length [] 0 [] [] []) (FinP H.length r39 (PdV c H j Qby res)):=by
 have hct:c.ts.length<4611686018427387904:=by omega
 have tail:∀ (nm:ZE) (pl:Int) (r:Rd) (G:ZG) (env:Env),Gd c d r->r.e=0->_->env.get 0=rp j->env.get 2=rp H.length->env.get 3=rp (H.length+1)->_:=λnm pl r G env hg he hr h0 h2 h3=>Qzy (nm:=nm) (pl:=pl) (r:=r) (G:=G) (res:=res) hn hN h20 hj hcl hF hkF hst hnb hg he hr h0 h2 h3;have bad:∀ rf:Rd,rf.e≠0->res.2=rf->∀ H',Qt H [j] H'->PdV c H j Qby res (.pan (QV rf.e rf.p)) H':=by
  intro rf hf hs H' hk;rw[<-hs]at hf ⊢;exact PdV.pan hf hk
 rw[show IC.tl 2 i39=.seq (IC.nth 2 i39) (IC.tl 3 i39)from rfl,show IC.tl 3 i39=.seq (IC.nth 3 i39) (IC.tl 4 i39)from rfl,show IC.tl 4 i39=.seq (IC.nth 4 i39) (IC.tl 5 i39)from rfl,show IC.tl 5 i39=.seq (IC.nth 5 i39) (IC.tl 6 i39)from rfl,show IC.tl 6 i39=.seq (IC.nth 6 i39) (IC.tl 7 i39)from rfl];generalize IC.tl 7 i39=t7 at tail ⊢;unfold Qc9 at hres;dsimp only at hres;have hw:=QdX (H:=H) (j:=j) (r:=r) (L:=rL H.length [] 0 [] [] [⟨[st (B [103,97,109,101])],9,0,true⟩]) (q:=4) (n:=1) (T:=9) (ver:=0) (l:=[[103,97,109,101]]) hn hct hj (by simp[wds,rL]) rfl (by simp) (by intro s hs; simp at hs; subst hs; rfl) he hg.a;have hg1:=(QH (c:=c) (d:=d) [103,97,109,101] hg).1;simp[IC.nth,i39,h0,rp,rL,Qaq];refine Qaa (by simpa[rp,rL,Qaq]using hw) (λhe1 => ?_) (λhe1 H' hk => ?_)
 . rw[QaN hj];simp only[Qau]at he1 ⊢;generalize t2 c [103,97,109,101] r=r1 at hg1 he1 hres ⊢;have h88:=λL=>Qh5 (c:=c) (r:=r1) hj (by have:=hg1.a; omega) he1 L false;simp only[Qhw]at h88;have hg2:=(Qcf (c:=c) (d:=d) r1 hg1).1;simp;generalize QO c r1=w at hg2 h88 hres;refine Qaa (by simpa[rp]using h88 _) (λhe2 => ?_) (λhe2 H' hk => ?_)
   . rw[QaN hj];simp[h0,h3,rp];have hw:=QdX (H:=H) (j:=j) (r:=w.2) (L:=rL H.length w.1 0 [] [] [⟨[st (B [103,97,109,101])],9,0,true⟩,⟨[st (B [59]),st (B [112,108,97,121,101,114,115])],9,0,true⟩]) (q:=5) (n:=2) (T:=9) (ver:=0) (l:=[[59],[112,108,97,121,101,114,115]]) hn hct hj (by simp[wds,rL]) rfl (by simp) (by intro s hs; simp at hs; rcases hs with rfl|rfl<;>rfl) he2 hg2.a
     have hg3:=(QH (c:=c) (d:=d) [112,108,97,121,101,114,115] (QH (c:=c) (d:=d) [59] hg2).1).1;refine Qaa (by simpa[rp,rL,Qaq]using hw) (λhe3 => ?_) (λhe3 H' hk => ?_)
     . rw[QaN hj];simp only[Qik]at he3 ⊢;generalize t2 c [112,108,97,121,101,114,115] (t2 c [59] w.2)=r3 at hg3 he3 hres ⊢;have h89:=λL=>Qoh (c:=c) (r:=r3) hj (by have:=hg3.a; omega) he3 L false;simp only[QhG]at h89;have hg4:=(Qcc (c:=c) (d:=d) r3 hg3).1;simp[h0,h3,rp];generalize nmR c r3=q at hg4 h89 hres;refine Qaa (by simpa[rp]using h89 _) (λhe4 => ?_) (λhe4 H' hk => ?_)
       . rw[QaN hj];simp[h0,h3,rp];have hw:=QdX (H:=H) (j:=j) (r:=q.2) (L:=rL H.length w.1 q.1 [] [] [⟨[st (B [103,97,109,101])],9,0,true⟩,⟨[st (B [59]),st (B [112,108,97,121,101,114,115])],9,0,true⟩,⟨[st (B [59])],9,0,true⟩]) (q:=6) (n:=1) (T:=9) (ver:=0) (l:=[[59]]) hn hct hj (by simp[wds,rL]) rfl (by simp) (by intro s hs; simp at hs; subst hs; rfl) he4 hg4.a;have hg5:=(QH (c:=c) (d:=d) [59] hg4).1;refine Qaa (by simpa[rp,rL,Qaq]using hw) (λhe5 => ?_) (λhe5 H' hk => ?_)
         . rw[QaN hj];simp only[Qau]at he5 ⊢;simp[h0,h3,rp];refine Xc ?_ (tail w.1 q.1 (t2 c [59] q.2) [⟨[st (B [103,97,109,101])],9,0,true⟩,⟨[st (B [59]),st (B [112,108,97,121,101,114,115])],9,0,true⟩,⟨[st (B [59])],9,0,true⟩] _ hg5 he5 hres ?_ ?_ ?_)
           . simp[rL,Qaq]
           all_goals simp[h0,h2,h3,rp]
         . simp;rw[Qau]at he5;refine⟨_,_,bad _ he5 ?_ _ hk.of_set,Qi⟩;rw[<-hres]; simp only[Qgr he5,QeO he5]
       . simp;refine⟨_,_,bad _ he4 ?_ _ hk.of_set,Qi⟩;rw[<-hres]; simp only[Q2 _ he4,Qgr he4,QeO he4]
     . simp;rw[Qik]at he3;refine⟨_,_,bad _ he3 ?_ _ hk.of_set,Qi⟩;rw[<-hres]; simp only[Qch _ he3,Q2 _ he3,Qgr he3,QeO he3]
   . simp;refine⟨_,_,bad _ he2 ?_ _ hk.of_set,Qi⟩;rw[<-hres]; simp only[Q2 _ he2,Qch _ he2,Qgr he2,QeO he2]
 . simp;rw[Qau]at he1;refine⟨_,_,bad _ he1 ?_ _ hk.of_set,Qi⟩;rw[<-hres]; simp only[Qd7 _ he1,Q2 _ he1,Qch _ he1,Qgr he1,QeO he1]
theorem ok39 (hn:QY c) (hN:QfM c) (h20:c.ts.length<=20000) {d:Nat} (hF:PdC c 32 [] F d) (hkF:Kp c d F) (hst:Qq F) (hnb:Nb c F) (ho:H[j]? = some (pdO c r)) (hg:Gd c d r) (he:r.e=0) :
 OkP Tryz.prog 39 [rp j] H (PdV c H j Qby (Qc9 c F r)):=by
 have hj:=Qj ho;refine Qp4 hm Tryz.func39 c39 (by simp[rp]) λhcl => ?_;have tail:∀ env:Env,env.get 0=rp j->env.get 2=rp H.length->env.get 3=rp (H.length+1)->_:=λenv h0 h2 h3=>QzS (r:=r) (res:=Qc9 c F r) hn hN h20 hj hcl hF hkF hst hnb hg he rfl h0 h2 h3;rw[show i39=.seq (IC.nth 0 i39) (.seq (IC.nth 1 i39) (IC.tl 2 i39))from rfl];generalize IC.tl 2 i39=t2' at tail ⊢;refine WI.seq (QbW hm) ?_;simp[IC.nth,i39];refine WI.seq (QbW hm) ?_;simp;refine WI.tell (Qaw.own0 (j:=H.length+1) (p:=2) (o:=⟨[st (B []),i64 0,nl,nl],36,0,true⟩) (by simp) rfl rfl 75 3) ?_;refine WI.tell (Qaw.own0 (j:=H.length+1) (p:=3) (o:=⟨[st (B []),i64 0,.own (H.length+2) 0 0 3 0,nl],36,0,true⟩) (by simp) rfl rfl 78 12) ?_;refine WI.cong (H':=H.set j (pdO c r)++rL H.length [] 0 [] [] []) ?_ ?_
 . rw[QcI ho];simp[rL,Qaq,zR,Qdo,Qdp,rws]
 . exact WI.of_X (QbW hm) (tail _ (by simp[rp]) (by simp[rp]) (by simp[rp]))
end
def QkT (l:List Ex):Prop:=l.length<2147483648/\∀ e∈l,e.sm
structure Qm.sm (a:Qm):Prop where
 wh:QkT a.wh
 len:a.sets.length<2147483648
 sets:∀ s∈a.sets,s.e.sm
structure Qb.sm (x:Qb):Prop where
 wt:QkT x.wt
 seen:x.seen.length<2147483648
 who:QkT x.who
 len:x.acts.length<2147483648
 acts:∀ a∈x.acts,a.sm
 pays:QkT x.pays
structure Qx.sm (r:Qx):Prop where
 vars:r.vars.length<2147483648
 len:r.stages.length<2147483648
 stages:∀ x∈r.stages,x.sm
section
variable {H:ZG}
theorem QfP (n:Nat) (r:Qx):SV.underL n r.c=true:=by
 simp[Qx.c,SV.underL,SV.under,Qe2 (Ql.und _),Qe2 (Qb.und _)]
end
def rO (x:Qx):AO:=⟨x.c,36,0,true⟩
section
variable {c:Cx} {F:Rd->Ex×Rd}
theorem QpS {d:Nat} (hkF:Kp c d F) (hst:Qq F):∀ (n:Nat) (l:List Qb) (r:Rd),c.ts.length<r.a+n->Gd c d r->(QF c F n l r).2.e=0->c.ts.length<=(QF c F n l r).2.a
 |0,l,r,hn,hg,_=>by have:=hg.a; omega
 |n+1,l,r,hn,hg,he=>by
  rw[QF]at he ⊢;by_cases hc:r.e=0/\(l=[]\/r.a<c.ts.length)
  . rw[Zn hc]at he ⊢;by_cases h1:(Q0 c F (QaR c l r)).2.e=0
    . have h2:QaR c l r=r:=by
       rw[QqS]at h1 ⊢;split
       . rename_i h3;rw[Zn h3]at h1;have hb:(Qg c 12 r).e≠0:=by simp[Qg,hc.1]
         rw[Qk0 hst _ hb]at h1;exact absurd h1 hb
       . rfl
      rw[h2]at h1 he ⊢;have h3:=QpL (c:=c) hkF hg h1;exact QpS hkF hst n _ _ (by omega) (QrY (c:=c) hkF r hg).1 he
    . rw[QeO h1]at he;exact absurd he h1
  . rw[Zm hc]at he ⊢;rcases Vr r.a c.ts.length with h|h
    . exact absurd ⟨he,.inr h⟩ hc
    . exact h
theorem QwC {d:Nat} (hkF:Kp c d F) (hst:Qq F) {r:Rd} (hg:Gd c d r) (he:(Qc9 c F r).2.e=0):¬ (Qc9 c F r).2.a<c.ts.length:=by
 unfold Qc9 at he ⊢;dsimp only at he ⊢;have g1:=(Qcf _ (QH (c:=c) (d:=d) [103,97,109,101] hg).1).1;have g2:=(QH (c:=c) (d:=d) [112,108,97,121,101,114,115] (QH (c:=c) (d:=d) [59] g1).1).1;have g3:=(QH (c:=c) (d:=d) [59] (Qcc _ g2).1).1;have g4:=(Qn4 (c:=c) (d:=d) c.ts.length [] _ g3).1;exact Nat.not_lt.2 (QpS hkF hst _ _ _ (by omega) g4 he)
theorem QxJ:QbL c F=if(Qc9 c F ⟨0,0,0,0⟩).2.e≠0 then(Qeb,(Qc9 c F ⟨0,0,0,0⟩).2.e,(Qc9 c F ⟨0,0,0,0⟩).2.p)else((Qc9 c F ⟨0,0,0,0⟩).1,0,0):=rfl
end
section
variable {H:ZG}
theorem Qvl {f g:Nat} (hf:f<H.length) (hg:g<H.length):OkD Tryz.prog 86 [rp f,rp g] H none (λH'=>H'=H):=by
 refine QjF hm Tryz.func86 c86 (by rfl) λhcl => ?_;simp -implicitDefEqProofs[Qli,i86,rp,rvD,SV.isIf,SV.ifNil];exact Qi
theorem Qz0 {f g:Nat} {c1 c2:ZH} (hf:H[f]? = some ⟨c1,36,0,true⟩) (hc1:c1.length=4) (hg:H[g]? = some ⟨c2,28,0,true⟩) (hc2:c2.length=2) (hne:f≠g) (e p:Int) :
 OkD Tryz.prog 86 [rp f,rp g] H (some (QV e p)) (λH'=>H'=(H.set f zR).set g ⟨[i64 e,i64 p],28,0,true⟩):=by
 have hj:=Qj hf;have hjg:=Qj hg;have e2:∀ (L:ZG) (h:AO->AO),Ab.setObj (H++L) f h=H.set f (h ⟨c1,36,0,true⟩)++L:=λL h=>by
  rw[QbX (o:=⟨c1,36,0,true⟩) (by rw[Vc hj]; exact hf),Vl _ _ hj]
 have hg':(H.set f zR)[g]? = some ⟨c2,28,0,true⟩:=by rw[Vf hne]; exact hg
 have e4:∀ (L:ZG) (h:AO->AO),Ab.setObj (H.set f zR++L) g h=(H.set f zR).set g (h ⟨c2,28,0,true⟩)++L:=λL h=>by
  rw[QbX (o:=⟨c2,28,0,true⟩) (by rw[Vc (by simpa using hjg)]; exact hg'),Vl _ _ (by simpa using hjg)]
 have e1:∀ L,Qn (H++L) f 0=c1:=λL=>Qap (o:=⟨c1,36,0,true⟩) (by rw[Vc hj]; exact hf) rfl;have e3:∀ L,Qn (H.set f zR++L) g 0=c2:=λL=>Qap (o:=⟨c2,28,0,true⟩) (by rw[Vc (by simpa using hjg)]; exact hg') rfl;have d1:List.drop 4 c1=[]:=V1 (by omega);have d2:List.drop 2 c2=[]:=V1 (by omega);simp only[zR]at e3 e4;refine QjF hm Tryz.func86 c86 (by rfl) λhcl => ?_;simp -implicitDefEqProofs[Qli,i86,rp,rvD,SV.isIf,SV.ifNil,QV];refine QeW (λ_=>Qk2 e p) ?_;simp -implicitDefEqProofs[QK,e1,e2,e3,e4,hc1,hc2,d1,d2];have hc1':closed (H.set f zR):=by
  have:=QfH hcl f (o:=zR) (by simp[zR,SV.underL,SV.under]);simpa using this
 have hc2':closed ((H.set f zR).set g ⟨[i64 e,i64 p],28,0,true⟩):=by
  have:=QfH hc1' g (o:=⟨[i64 e,i64 p],28,0,true⟩) (by simp[SV.underL]);simpa using this
 refine⟨rfl,Qnm (by simpa[QV,QK]using Qk2 e p),?_⟩;exact Qp 2 hc2' (by simp) rfl
theorem QrX (hcl:closed H) (e p:Int) (L:ZG):Cv H.length (.tup [.agg zR.cells,QK e p]) (H++L) (.tup [(Qby Qeb),QK e p]) H:=by
 refine Cv.le (Qp (n0:=H.length) (r1:=.tup [.agg [st (B []),i64 0,nl,nl],.agg [i64 e,i64 p]]) (r:=.tup [.agg [st (B []),i64 0,nl,nl],.agg [i64 e,i64 p]]) 3 hcl rfl (by simp)) ?_;exact QzF e p
theorem QzY {q:Qx×Int×Int} (hcl:closed H) (hq:q.1=Qeb) {env:Env} {H1:ZG} {c1 c2:ZH} (hf:H1[H.length]? = some ⟨c1,36,0,true⟩) (hc1:c1.length=4) (hg:H1[H.length+1]? = some ⟨c2,28,0,true⟩) (hc2:c2.length=2)
 (hp:∀ i,i<H.length->H1[i]? = H[i]?) (h4:env.get 4=rp H.length) (h5:env.get 5=rp (H.length+1)) :
 Qg6 Tryz.prog H.length r38 (λo h=>o=.ret (.tup [Qby q.1,QK q.2.1 q.2.2])/\h=H) 86 [rp H.length,rp (H.length+1)] (.panic (QV q.2.1 q.2.2)) env H1:=by
 refine⟨_,Qz0 hf hc1 hg hc2 (by omega) _ _,?_⟩;rintro H4 rfl;have hlen:H.length+2<=H1.length:=by have:=Qj hg; omega
 obtain⟨L,hL⟩:∃ L,(H1.set H.length zR).set (H.length+1) ⟨[i64 q.2.1,i64 q.2.2],28,0,true⟩=H++zR::⟨[i64 q.2.1,i64 q.2.2],28,0,true⟩::L:=by
  refine⟨H1.drop (H.length+2),?_⟩;apply V4;intro i;rcases Ys i H.length with h|h|h
  . rw[Vf (by omega),Vf (by omega),hp i h,Vc h]
  . subst h;rw[Vf (by omega),Vo (by omega),Vk (by omega)];simp
  . by_cases h2:i=H.length+1
    . subst h2;rw[Vo (by simp; omega),Vk (by omega)];simp
    . rw[Vf (by omega),Vf (by omega),Vk (by omega)];obtain⟨k,rfl⟩:∃ k,i=H.length+2+k:=⟨i-(H.length+2),by omega⟩;have e:H.length+2+k-H.length=k+1+1:=by omega
      rw[e,YG,YG,VP]
 rw[hL];have e1:Qn (H++zR::⟨[i64 q.2.1,i64 q.2.2],28,0,true⟩::L) H.length 0=zR.cells:=Qap (o:=zR) (by simp) rfl;have e2:Qn (H++zR::⟨[i64 q.2.1,i64 q.2.2],28,0,true⟩::L) (H.length+1) 0=[i64 q.2.1,i64 q.2.2]:=Qap (o:=⟨[i64 q.2.1,i64 q.2.2],28,0,true⟩) (by simp) rfl;refine⟨?_,_,H,⟨rfl,rfl⟩,?_⟩
 . intro s hs;simp only[r38,Ve,VC,Zu]at hs;rcases hs with rfl|rfl
   . simp[RS.side,h4,rp,zR]
   . simp[RS.side,h5,rp,e2]
 . have hr:Qa2 env (H++zR::⟨[i64 q.2.1,i64 q.2.2],28,0,true⟩::L) r38=.tup [.agg zR.cells,QK q.2.1 q.2.2]:=by
    simp[Qa2,r38,RS.ev,h4,h5,rp,zR,QK]
   rw[hr,hq];exact QrX hcl _ _ _
theorem QeC (x:Qx):x.c.length=4:=rfl
theorem Qky (x:Qx):List.drop 4 x.c=[]:=rfl
theorem QeN (x:Qx):QC x.c:=by
 intro s hs;simp[Qx.c]at hs;rcases hs with rfl|rfl|rfl|rfl<;>rfl
theorem Qe0 (x:Qx):List.take 4 x.c=x.c:=rfl
theorem QzU {x:Qx} (hcl:closed H) {env:Env} {L:ZG} (h4:env.get 4=rp H.length) (h5:env.get 5=rp (H.length+1)) :
 Qg6 Tryz.prog H.length r38 (λo h=>o=.ret (.tup [.agg x.c,.agg [i64 0,i64 0]])/\h=H) 86 [rp H.length,rp (H.length+1)] .ret env (H++rO x::⟨[i64 0,i64 0],28,0,true⟩::L):=by
 refine⟨_,Qvl (by simp) (by simp),?_⟩;rintro H4 rfl;have e1:Qn (H++rO x::⟨[i64 0,i64 0],28,0,true⟩::L) H.length 0=x.c:=Qap (o:=rO x) (by simp) rfl;have e2:Qn (H++rO x::⟨[i64 0,i64 0],28,0,true⟩::L) (H.length+1) 0=[i64 0,i64 0]:=Qap (o:=⟨[i64 0,i64 0],28,0,true⟩) (by simp) rfl;refine⟨?_,_,H,⟨rfl,rfl⟩,?_⟩
 . intro s hs;simp only[r38,Ve,VC,Zu]at hs;rcases hs with rfl|rfl
   . simp[RS.side,h4,rp,e1,QeC]
   . simp[RS.side,h5,rp,e2]
 . have hr:Qa2 env (H++rO x::⟨[i64 0,i64 0],28,0,true⟩::L) r38=.tup [.agg x.c,.agg [i64 0,i64 0]]:=by
    simp[Qa2,r38,RS.ev,h4,h5,rp,e1,e2,Qe0]
   rw[hr];refine Qp 3 hcl rfl (Qc3 ?_);simp[SV.under,SV.underL,QfP]
theorem ok38 {l:ZE} (hl:l.length<=20000):Ok Tryz.prog 38 [st (B l),.fn (.func 39) [] []] H (.ret (.tup [Qby (QJ l).1,QK (QJ l).2.1 (QJ l).2.2])) H:=by
 refine OkP.toOk (Qsh hm Tryz.func38 c38 (by rfl) λhcl => ?_);have hT:=tokT l;have hN:=tokN l;have hlen:=Qsu l;have h26:=λH=>Qmw (H:=H) (l:=l) (by omega);have hex:QJ l=if(Qv l).2.1≠0 then(Qeb,(Qv l).2)else QbL ⟨(Qv l).1,l.length⟩ (orT ⟨(Qv l).1,l.length⟩):=rfl;rw[hex];generalize Qv l=s at hlen h26 hT hN ⊢;obtain⟨ts,fe,fp⟩:=s;simp only at hlen h26 hT hN ⊢;simp -implicitDefEqProofs[XL,i38p,Qoq,Qsx,QrE];refine Qc (h26 _) ?_;simp -implicitDefEqProofs[QK,Qbc];by_cases hs:fe=0
 . subst hs;simp -implicitDefEqProofs[i38s,i38f,XL,QgY,i38];have hlc:ts.length<4611686018427387904:=by omega
   have hg:Gd ⟨ts,l.length⟩ 40 ⟨0,0,0,0⟩:=⟨Yc _,.inr rfl⟩;have hor:PdC ⟨ts,l.length⟩ 32 [] (orT ⟨ts,l.length⟩) 40:=(QnW hT hlc 40 (by omega)).2.2;have hkF:Kp ⟨ts,l.length⟩ 40 (orT ⟨ts,l.length⟩):=(Qnk ⟨ts,l.length⟩ 40 (by omega)).2.2;have hst:Qq (orT ⟨ts,l.length⟩):=Qh8 _ _;have hnb:Nb ⟨ts,l.length⟩ (orT ⟨ts,l.length⟩):=λr he hb=>QAy he hb 40;refine⟨86,_,⟨rfl,rfl⟩,Qc ok78 ?_⟩;simp -implicitDefEqProofs[QkI];have hG:∀ L,(H++(zR::⟨[i64 0,i64 fp],28,0,true⟩::pdO ⟨ts,l.length⟩ ⟨0,0,0,0⟩::L))[H.length+2]? = some (pdO ⟨ts,l.length⟩ ⟨0,0,0,0⟩):=λL=>by simp
   have hc:=ok39 (c:=⟨ts,l.length⟩) hT.num hN (show ts.length<=20000 by omega) hor hkF hst hnb (hG []) hg rfl;have hend:=QwC (c:=⟨ts,l.length⟩) hkF hst hg;refine⟨⟨rfl,rfl,rfl,rfl,rfl⟩,Q4 (Pt:=PdV ⟨ts,l.length⟩ (H++[zR,⟨[i64 0,i64 fp],28,0,true⟩,pdO ⟨ts,l.length⟩ ⟨0,0,0,0⟩]) (H.length+2) Qby (Qc9 ⟨ts,l.length⟩ (orT ⟨ts,l.length⟩) ⟨0,0,0,0⟩)) (by simpa[rp,zR,pdO,pdC,Qbc]using hc) ?_⟩;intro o H' hp;unfold PdV at hp;rw[QxJ];generalize Qc9 ⟨ts,l.length⟩ (orT ⟨ts,l.length⟩) ⟨0,0,0,0⟩=x at hp hend ⊢;obtain⟨ex,r⟩:=x;dsimp only at hp hend ⊢;by_cases he:r.e=0
   . rw[Zn he]at hp;obtain⟨rfl,rfl⟩:=hp;have hset:(H++[zR,⟨[i64 0,i64 fp],28,0,true⟩,pdO ⟨ts,l.length⟩ ⟨0,0,0,0⟩]).set (H.length+2) (pdO ⟨ts,l.length⟩ r)=H++[zR,⟨[i64 0,i64 fp],28,0,true⟩,pdO ⟨ts,l.length⟩ r]:=by
      rw[Yg _ _ (by omega)]; simp
     rw[hset];have hlt:=hend he;rw[Zm (by simp[he])];have hck:=Zw (QeN ex);simp -implicitDefEqProofs[Qby,QeC,Qe0,Qky,hck,zR,pdO,pdC,Qbc,hlt];exact QzU hcl (by simp[rp]) (by simp[rp])
   . rw[Zm he]at hp;obtain⟨rfl,hk⟩:=hp;rw[Zn he];simp -implicitDefEqProofs;have hk1:∀ i,i<H.length+2->H'[i]? = (H++[zR,⟨[i64 0,i64 fp],28,0,true⟩,pdO ⟨ts,l.length⟩ ⟨0,0,0,0⟩])[i]? := λi hi=>hk.at_ i (by simp; omega) (by simp; omega);exact QzY (q:=(Qeb,r.e,r.p)) hcl rfl (c1:=zR.cells) (c2:=[i64 0,i64 fp]) (by rw[hk1 _ (by omega)]; simp[zR]) rfl (by rw[hk1 _ (by omega)]; simp) rfl (λi hi=>by rw[hk1 i (by omega),Vc hi]) (by simp[rp]) (by simp[rp])
 . simp -implicitDefEqProofs[hs,XL,QgY,r38];simp only[Zm hs];exact⟨rfl,_,_,⟨rfl,rfl⟩,by simpa[zR,QK]using QrX hcl fe fp _⟩
theorem QiG {l:ZE} (hl:l.length<=20000):Ok Tryz.prog 14 [st (B l)] H (.ret (.tup [Qby (QJ l).1,QK (QJ l).2.1 (QJ l).2.2])) H:=by
 have h38:=λH=>ok38 (H:=H) hl;generalize QJ l=q at h38 ⊢;refine Qz hm Tryz.func14 c14 (by simp) λhcl => ?_;simp -implicitDefEqProofs[i14,r14];refine Qc (h38 _) ?_;have hck:=Zw (QeN q.1);simp -implicitDefEqProofs[Qby,QK,QeC,Qe0,hck];refine Qp 3 hcl rfl (Qc3 ?_);simp[SV.under,SV.underL,QfP]
end
theorem Qel {a b:ZE} {p:Nat}:cAt (a++b) (a.length+p)=cAt b p:=by
 unfold cAt;rw[VB,VB,Vk (by omega)];simp
theorem Qg0 {a b:ZE} {p:Nat} (h:p<a.length):cAt (a++b) p=cAt a p:=by
 unfold cAt;rw[VB,VB,Vc h]
theorem Qqr {a b:ZE} {cs:List Int}:∀ (n e:Nat),QbP (a++b) cs n (a.length+e)=a.length+QbP b cs n e
 |0,e=>rfl
 |n+1,e=>by
  simp only[QbP,Qel,Vj];by_cases h:e<b.length/\cAt b e∈cs
  . rw[Zn ⟨by omega,h.2⟩,Zn h,Yd]; exact Qqr n (e+1)
  . rw[Zm (λh2=>h ⟨by omega,h2.2⟩),Zm h]
theorem Qje {a b:ZE} {cs:List Int} {e:Nat}:Qan (a++b) cs (a.length+e)=a.length+Qan b cs e:=by
 unfold Qan;rw[show(a++b).length-(a.length+e)=b.length-e by simp; omega];exact Qqr _ _
theorem QkD {a b:ZE} {e:Nat}:(a++b).drop (a.length+e)=b.drop e:=by
 rw[YT,V1 (by omega)];simp
theorem Qn8 {a b:ZE} {p q:Nat}:cut (a++b) (a.length+p) (a.length+q)=cut b p q:=by
 unfold cut;rw[QkD,show a.length+q-(a.length+p)=q-p by omega]
theorem Qmu {a b:ZE} {p:Nat}:(a++b).getD (a.length+p) 0=b.getD p 0:=by
 rw[VB,VB,Vk (by omega)];simp
theorem QoO {a b:ZE} {e:Nat}:Qbk (a++b) (a.length+e)=a.length+Qbk b e:=by
 unfold Qbk;rw[QkD,Qmu];split
 . omega
 . split<;>omega
theorem Qts {a b tx:ZE} {k:Int} {p:Nat} (h:p=0->a=[]\/cAt a (a.length-1)≠3):whE (a++b) k tx (a.length+p)=whE b k tx p:=by
 unfold whE;have e:(tx=[]\/k=1/\0<a.length+p/\cAt (a++b) (a.length+p-1)=3)↔(tx=[]\/k=1/\0<p/\cAt b (p-1)=3):=by
  by_cases hp:p=0
  . subst hp;rcases h rfl with h1|h1
    . subst h1; simp
    . by_cases ha:a.length=0
      . have:a=[]:=VJ ha;subst this; simp
      . have e1:cAt (a++b) (a.length+0-1)=cAt a (a.length-1):=Qg0 (by omega);rw[e1];simp[h1]
  . have e1:a.length+p-1=a.length+(p-1):=by omega
    rw[e1,Qel];have:0<a.length+p↔0<p:=by omega
    rw[this]
 simp only[e]
def Tok.mv (t:Tok) (d:Nat):Tok:={ t with p:=d+t.p }
def Stp.mv (d:Nat):Stp->Stp
 |.skip q=>.skip (d+q)
 |.tok t q=>.tok (t.mv d) (d+q)
 |.flt e=>.flt e
theorem QjO {a b:ZE} {k:Int} {p q:Nat} (h:p=0->a=[]\/cAt a (a.length-1)≠3):QQ (a++b) (a.length+p) k (a.length+q)=(QQ b p k q).mv a.length:=by
 unfold QQ;rw[Qn8,Qts h];split<;>rfl
theorem Qr7 {a b:ZE} {p:Nat} (h:p=0->a=[]\/cAt a (a.length-1)≠3):Qy (a++b) (a.length+p)=(Qy b p).mv a.length:=by
 unfold Qy;rw[Qel,Qje,Qje,QoO,Qmu,QkD,QjO h,QjO h,QjO h,QjO h];split
 . simp only[Stp.mv]; rw[Yd]
 . split
   . rfl
   . split
     . rfl
     . split
       . rfl
       . split
         . simp only[Stp.mv]; rw[Yd]
         . rfl
def Ev.mv (d:Nat):Ev->Ev
 |.tok t=>.tok (t.mv d)
 |.flt e p=>.flt e (d+p)
theorem QmR {a b:ZE}:∀ (n p:Nat),(p=0->a=[]\/cAt a (a.length-1)≠3)->evs (a++b) n (a.length+p)=(evs b n p).map (Ev.mv a.length)
 |0,p,_=>rfl
 |n+1,p,h=>by
  simp only[evs,Vj];by_cases hp:p<b.length
  . rw[Zn (by omega),Zn hp,Qr7 h]
    cases hs:Qy b p with
    |skip q =>
     simp only[Stp.mv];refine QmR n q λh0 => ?_;have:p<q:=by
      unfold Qy at hs;have key:∀ k q',QQ b p k q'≠.skip q:=by intro k q' h; unfold QQ at h; split at h<;>cases h
      split at hs
      . cases hs; omega
      . split at hs
        . exact absurd hs (key _ _)
        . split at hs
          . exact absurd hs (key _ _)
          . split at hs
            . exact absurd hs (key _ _)
            . split at hs
              . rename_i h35; cases hs; have:=QnL hp h35; omega
              . exact absurd hs (key _ _)
     omega
    |tok t q =>
     simp only[Stp.mv,Vn,Ev.mv];rw[QmR n q λh0=>by have:=mkq hs hp; omega]
    |flt e=>rfl
  . rw[Zm (by omega),Zm hp]; rfl
theorem QsL {l:ZE} {p q:Nat} (hp:p<l.length) (hs:Qy l p=.skip q):p<q/\q<=l.length:=by
 unfold Qy at hs;have key:∀ k q',QQ l p k q'≠.skip q:=by intro k q' h; unfold QQ at h; split at h<;>cases h
 split at hs
 . cases hs; omega
 . split at hs
   . exact absurd hs (key _ _)
   . split at hs
     . exact absurd hs (key _ _)
     . split at hs
       . exact absurd hs (key _ _)
       . split at hs
         . rename_i h35; cases hs
           have h1:=QnL hp h35;have h2:=Qmo (l.drop p);simp at h2; omega
         . exact absurd hs (key _ _)
theorem QkR {l:ZE}:∀ (n m p:Nat),l.length<=p+n->l.length<=p+m->evs l n p=evs l m p
 |0,0,p,_,_=>rfl
 |0,m+1,p,h,_=>by simp only[evs]; rw[Zm (by omega)]
 |n+1,0,p,_,h=>by simp only[evs]; rw[Zm (by omega)]
 |n+1,m+1,p,h1,h2=>by
  simp only[evs];split
  . rename_i hp
    cases hs:Qy l p with
    |skip q=>have:=QsL hp hs; exact QkR n m q (by omega) (by omega)
    |tok t q=>have:=mkq hs hp; simp only; rw[QkR n m q (by omega) (by omega)]
    |flt e=>rfl
  . rfl
def Wht (c:UInt8):Prop:=c=10\/c=32
section
variable {a b:ZE} {c:UInt8}
theorem QqB (hc:Wht c):cAt (a++c::b) a.length=1:=by
 have h:cAt (a++c::b) (a.length+0)=cAt (c::b) 0:=Qel;rw[V9]at h;rw[h];rcases hc with rfl|rfl<;>rfl
theorem QpE (hc:Wht c) {cs:List Int} (h1:(1:Int)∉cs):∀ (n m e:Nat),e<=a.length->a.length<=e+n->a.length<e+m->QbP (a++c::b) cs m e=QbP a cs n e
 |n,0,e,h,h2,h3=>by omega
 |0,m+1,e,h,h2,h3=>by
  have e:e=a.length:=by omega
  subst e;simp only[QbP];rw[Zm (λh=>h1 (by rw[<-QqB (a:=a) (b:=b) hc]; exact h.2))]
 |n+1,m+1,e,h,h2,h3=>by
  simp only[QbP];by_cases he:e<a.length
  . rw[Qg0 he];by_cases h4:cAt a e∈cs
    . rw[Zn ⟨by simp; omega,h4⟩,Zn ⟨he,h4⟩];exact QpE hc h1 n m (e+1) (by omega) (by omega) (by omega)
    . rw[Zm (λh=>h4 h.2),Zm (λh=>h4 h.2)]
  . have e:e=a.length:=by omega
    subst e;rw[Zm (λh=>h1 (by rw[<-QqB (a:=a) (b:=b) hc]; exact h.2)),Zm (λh=>he h.1)]
theorem QsZ (hc:Wht c) {cs:List Int} (h1:(1:Int)∉cs) {e:Nat} (h:e<=a.length):Qan (a++c::b) cs e=Qan a cs e :=
 QpE hc h1 _ _ e h (by omega) (by simp; omega)
theorem Qm0 {e:Nat} (h:e<=a.length):(a++c::b).drop e=a.drop e++c::b:=by
 rw[YU h]
theorem Qyl {p q:Nat} (hp:p<=a.length) (hq:q<=a.length):cut (a++c::b) p q=cut a p q:=by
 unfold cut;rw[Qm0 hp,YE (by simp; omega)]
theorem Qx3 (hc:Wht c) {r:ZE} (h:r≠[]):QdO (r++c::b)=QdO r:=by
 unfold QdO;have h1:∀ x:UInt8,Wht c->x∈[61,46]->(x==c)=false:=by
  intro x hc hx;simp at hx;rcases hc with rfl|rfl<;>rcases hx with rfl|rfl<;>rfl
 match r,h with
 |[x],_ =>
  simp only[QaL,List.any_cons,List.any_nil,List.isPrefixOf,Vv,Vx];rw[h1 61 hc (by simp),h1 46 hc (by simp)];simp
 |x::y::r,_=>simp[QaL,List.isPrefixOf]
theorem QpK {e:Nat} (h:e<a.length):(a++c::b).getD e 0=a.getD e 0:=by
 rw[VB,VB,Vc h]
theorem Qyk (hc:Wht c) {e:Nat} (h:e<a.length):Qbk (a++c::b) e=Qbk a e:=by
 unfold Qbk;rw[Qm0 (by omega),QpK h,Qx3 hc (by intro h2; have:=Zp List.length h2; simp at this; omega)]
theorem QwA {tx:ZE} {k:Int} {p:Nat} (h:p<a.length):whE (a++c::b) k tx p=whE a k tx p:=by
 unfold whE;by_cases hp:p=0
 . subst hp; simp
 . rw[Qg0 (show p-1<a.length by omega)]
theorem Qkn {k:Int} {p q:Nat} (h:p<a.length) (hq:q<=a.length):QQ (a++c::b) p k q=QQ a p k q:=by
 unfold QQ;rw[Qyl (by omega) hq,QwA h]
theorem Qqu:∀ {a b:ZE},QbE (a++10::b)=QbE a
 |[],b=>rfl
 |x::r,b=>by
  simp only[Vv,QbE];split
  . rfl
  . rw[Qqu]
theorem QzZ (hc:Wht c) {p:Nat} (h:p<a.length) (hn:c=10\/a.getD p 0≠35):Qy (a++c::b) p=Qy a p:=by
 have r1:=QsZ (b:=b) hc (cs:=[2,3]) (by decide) (show p<=a.length by omega);have r2:=QsZ (b:=b) hc (cs:=[3]) (by decide) (show p<=a.length by omega);have r3:=Qyk (b:=b) hc h;unfold Qy;rw[Qg0 h,r1,r2,r3,QpK h,Qm0 (by omega),Qkn h (QgR (by omega)),Qkn h (QgR (by omega)),Qkn h (QjR h).2,Qkn h (by omega)];rcases hn with rfl|hn
 . rw[Qqu]
 . simp only[Zm hn]
def bad:List Ev->Bool
 |[]=>false
 |.tok _::r=>bad r
 |.flt _ _::_=>true
end
def Qf2:List Ev->Int×Int
 |[]=>(0,0)
 |.tok _::r=>Qf2 r
 |.flt e p::_=>(e,p)
theorem Qoy:∀ (es:List Ev) (i:Nat),i+(Qag es).length<=5000->QbZ i es=Qf2 es
 |[],i,_=>rfl
 |.tok t::r,i,h=>by
  simp only[Qag,Vh]at h;simp only[QbZ,Qf2];rw[Zm (by omega)];exact Qoy r (i+1) (by omega)
 |.flt e p::_,i,_=>rfl
theorem Qr6:∀ {es:List Ev},bad es=false->Qf2 es=(0,0)
 |[],_=>rfl
 |.tok t::r,h=>Qr6 (es:=r) h
 |.flt e p::_,h=>by simp[bad]at h
theorem Qpk:∀ {es:List Ev},(∀ e p,Ev.flt e p∈es->e≠0)->bad es=true->(Qf2 es).1≠0
 |[],_,h=>by simp[bad]at h
 |.tok t::r,hm,h=>Qpk (es:=r) (λe p h=>hm e p (VQ _ h)) h
 |.flt e p::_,hm,_=>hm e p (by simp)
theorem QtY {l:ZE} (h:l.length<=20000) (hl:(Qag (Qaz l)).length<=5000):Qv l=bif bad (Qaz l)then([],Qf2 (Qaz l))else(Qag (Qaz l),0,0):=by
 have hf:=Qoy (Qaz l) 0 (by omega);unfold Qv;rw[Zm (by omega),hf]
 cases hb:bad (Qaz l)with
 |true =>
  have hne:(Qf2 (Qaz l)).1≠0:=Qpk (λe p h=>Qjy l.length 0 h) hb;rw[Zm hne]; rfl
 |false =>
  rw[Qr6 hb]; rfl
section
variable {a b:ZE}
theorem QzV {c:UInt8} (hc:cls c.toNat=1) (m:Nat) (hm:b.length<=m):evs (a++c::b) (m+1) a.length=(Qaz b).map (Ev.mv (a.length+1)):=by
 have h1:cAt (a++c::b) a.length=1:=by
  have h:cAt (a++c::b) (a.length+0)=cAt (c::b) 0:=Qel;rw[V9]at h;rw[h]; exact hc
 have hs:Qy (a++c::b) a.length=.skip (a.length+1):=by unfold Qy; rw[Zn h1]
 have e1:evs (a++c::b) (m+1) a.length=evs (a++c::b) m (a.length+1):=by simp only[evs]; rw[Zn (by simp),hs]
 have e2:=QmR (a:=a++[c]) (b:=b) m 0 (λ_=>.inr (by
  have:cAt (a++[c]) ((a++[c]).length-1)=cAt [c] 0:=by
   have h:cAt (a++[c]) (a.length+0)=cAt [c] 0:=Qel;rw[<-h]; simp
  rw[this];have h3:cAt [c] 0=cls c.toNat:=rfl;rw[h3,hc]; decide))
 have e3:(a++[c])++b=a++c::b:=by simp
 have e4:(a++[c]).length+0=a.length+1:=by simp
 rw[e3,e4]at e2;rw[e1,e2,show(a++[c]).length=a.length+1 by simp];unfold Qaz;rw[QkR m b.length 0 (by omega) (by omega)]
end
def Qbu:Nat->Nat->ZE
 |0,n=>[UInt8.ofNat (48+n)]
 |k+1,n=>if 9<n then Qbu k (n / 10)++[UInt8.ofNat (48+n % 10)]else [UInt8.ofNat (48+n)]
def Qcr (n:Nat):ZE:=Qbu 18 n
theorem Qy6 {k n:Nat} (h:n<=9):Qbu k n=[UInt8.ofNat (48+n)]:=by
 cases k with
 |zero=>rfl
 |succ k=>rw[Qbu,Zm (by omega)]
def opN (op:Int):Int:=if op=1\/op=2 then 0 else if op=3\/op=4 then 1 else if op=20 then 3 else if 5<=op/\op<=19 then 2 else -1
def Ex.op:Ex->Int
 |.mk op _ _ _ _=>op
theorem QsW:∀ (k n:Nat),n<10 ^ (k+1)->∀ c∈Qbu k n,48<=c.toNat/\c.toNat<=57
 |0,n,h,c,hc=>by
  rw[Qbu,VV]at hc;subst hc;have:(UInt8.ofNat (48+n)).toNat=48+n:=by simp; omega
  omega
 |k+1,n,h,c,hc=>by
  rw[Qbu]at hc;split at hc
  . rw[Vq,VV]at hc;rcases hc with hc|rfl
    . exact QsW k (n / 10) (by rw[Nat.pow_succ]at h; omega) c hc
    . have:(UInt8.ofNat (48+n % 10)).toNat=48+n % 10:=by simp; omega
      omega
  . rw[VV]at hc;subst hc;have:(UInt8.ofNat (48+n)).toNat=48+n:=by simp; omega
    omega
theorem Qlg (k n:Nat):0<(Qbu k n).length:=by
 cases k with
 |zero=>simp[Qbu]
 |succ k=>rw[Qbu]; split<;>simp
theorem Qoo:∀ (k n:Nat),n<10 ^ (k+1)->0<n->(Qbu k n).getD 0 0≠48
 |0,n,h,h0,hc=>by
  rw[Qbu]at hc;have:UInt8.ofNat (48+n)=48:=by simpa using hc
  have h2:(UInt8.ofNat (48+n)).toNat=48+n:=by simp; omega
  rw[this]at h2;have:(48:UInt8).toNat=48:=rfl;omega
 |k+1,n,h,h0,hc=>by
  rw[Qbu]at hc;split at hc
  . have hp:=Qlg k (n / 10);have e:(Qbu k (n / 10)++[UInt8.ofNat (48+n % 10)]).getD 0 0=(Qbu k (n / 10)).getD 0 0:=by
     rw[VB,VB,Vc hp]
    rw[e]at hc;exact Qoo k (n / 10) (by rw[Nat.pow_succ]at h; omega) (by omega) hc
  . have:UInt8.ofNat (48+n)=48:=by simpa using hc
    have h2:(UInt8.ofNat (48+n)).toNat=48+n:=by simp; omega
    rw[this]at h2;have:(48:UInt8).toNat=48:=rfl;omega
theorem Qqa:∀ (a b:ZE) (m:Int),(Qax a m).1=0->Qax (a++b) m=Qax b (Qax a m).2
 |[],b,m,_=>rfl
 |c::a,b,m,h=>by
  rw[Vv,Qax,Qax];rw[Qax]at h;split
  . rename_i h2; rw[Zn h2]at h; exact absurd h (show ¬ (2:Int)=0 by decide)
  . rename_i h2; rw[Zm h2]at h; exact Qqa a b _ h
theorem Qpv:∀ (k n:Nat),n<10 ^ (k+1)->n<=1000000000->Qax (Qbu k n) 0=(0,(n:Int))
 |0,n,h,hn=>by
  have h2:(UInt8.ofNat (48+n)).toNat=48+n:=by simp; omega
  rw[Qbu,Qax,h2,Zm (by omega),Qax];congr 1; omega
 |k+1,n,h,hn=>by
  rw[Qbu];split
  . have ih:=Qpv k (n / 10) (by rw[Nat.pow_succ]at h; omega) (by omega);rw[Qqa _ _ _ (by rw[ih]),ih];have h2:(UInt8.ofNat (48+n % 10)).toNat=48+n % 10:=by simp; omega
    simp only[Qax];rw[h2,Zm (by omega)];congr 1; omega
  . have h2:(UInt8.ofNat (48+n)).toNat=48+n:=by simp; omega
    rw[Qax,h2,Zm (by omega),Qax];congr 1; omega
inductive TK where
 |wd (s:ZE)
 |sg (s:ZE)
 |nm (n:Nat)
inductive Pc where
 |b (c:UInt8)
 |t (k:TK)
def TK.tx:TK->ZE
 |.wd s=>s
 |.sg s=>s
 |.nm n=>Qcr n
def txt:List Pc->ZE
 |[]=>[]
 |.b c::r=>c::txt r
 |.t k::r=>k.tx++txt r
def tks:List Pc->List TK
 |[]=>[]
 |.b _::r=>tks r
 |.t k::r=>k::tks r
theorem Qbm:∀ a b:List Pc,txt (a++b)=txt a++txt b
 |[],b=>rfl
 |.b c::a,b=>by simp[txt,Qbm a b]
 |.t k::a,b=>by simp[txt,Qbm a b]
theorem Qar:∀ a b:List Pc,tks (a++b)=tks a++tks b
 |[],b=>rfl
 |.b c::a,b=>by simp[tks,Qar a b]
 |.t k::a,b=>by simp[tks,Qar a b]
def QeF (t:Tok):TK->Prop
 |.wd s=>t.k=1/\t.tx=s
 |.sg s=>t.k=3/\t.tx=s
 |.nm n=>t.k=2/\t.n=n
inductive Qbo:List Tok->List TK->Prop
 |nil:Qbo [] []
 |cons {t:Tok} {k:TK} {ts:List Tok} {ks:List TK}:QeF t k->Qbo ts ks->Qbo (t::ts) (k::ks)
def Qjs (s:ZE):Prop:=s≠[]/\cAt s 0=2/\(∀ i,i<s.length->cAt s i=2\/cAt s i=3)/\s.length<=40
def isSg (s:ZE):Prop:=(∃ c∈Qg7,s=[c])\/s∈QaL
def TK.ok:TK->Prop
 |.wd s=>Qjs s
 |.sg s=>isSg s
 |.nm n=>n<=1000000000
def TK.sep:TK->ZE->Prop
 |.sg s,r=>s.length=2\/(r.getD 0 0≠61/\r.getD 0 0≠46)
 |_,r=>cAt r 0≠2/\cAt r 0≠3
def QcQ:List Pc->Prop
 |[]=>True
 |.b c::r=>(c=32\/c=10)/\QcQ r
 |.t k::r=>k.ok/\k.sep (txt r)/\QcQ r
theorem QsV {s r:ZE} {cs:List Int} (hs:∀ i,i<s.length->cAt s i∈cs) (hr:cAt r 0∉cs):Qan (s++r) cs 0=s.length:=by
 have key:∀ k,k<=s.length->Qan (s++r) cs (s.length-k)=s.length:=by
  intro k
  induction k with
  |zero =>
   intro _;refine QhY λh=>hr ?_;have:=Qel (a:=s) (b:=r) (p:=0);rw[<-this]; exact h.2
  |succ k ih =>
   intro hk;rw[Qmx (by simp; omega) (by rw[Qg0 (by omega)]; exact hs _ (by omega)),show s.length-(k+1)+1=s.length-k by omega];exact ih (by omega)
 have:=key s.length (Vb _)
 rwa [Nat.sub_self]at this
theorem Qnw (s r:ZE):cut (s++r) 0 s.length=s:=by simp[cut]
theorem Qmz {s r:ZE} (h:s≠[]):cAt (s++r) 0=cAt s 0:=Qg0 (Yl.2 h)
theorem QBf {s r:ZE} (h:Qjs s) (hr:cAt r 0≠2/\cAt r 0≠3):Qy (s++r) 0=.tok ⟨1,s,0,0⟩ s.length:=by
 obtain⟨h0,h1,h2,h3⟩:=h;have hru:=QsV (cs:=[2,3]) (λi hi=>by simpa using h2 i hi) (by simpa using hr);unfold Qy;rw[Qmz h0,h1,Zm (by decide),Zn rfl,hru];unfold QQ;rw[Qnw];have hw:whE (s++r) 1 s 0=(0,0):=by
  unfold whE;rw[Zm (by simp[h0]),Zm (by omega),Zn (by decide)]
 rw[hw,Zm (λh=>h rfl)]
theorem QA5 {c:UInt8} (h:48<=c.toNat/\c.toNat<=57):cls c.toNat=3 :=
 (Qu7 c.toNat_lt).2.1.2 (by simp[Qea]; omega)
theorem Qoj {s:ZE} (hs:∀ c∈s,48<=c.toNat/\c.toNat<=57) {i:Nat} (h:i<s.length):cAt s i=3:=by
 unfold cAt;rw[VB,Vd h];exact QA5 (hs _ (Vu h))
theorem Qu9 {n:Nat} {r:ZE} (h:n<=1000000000) (hr:cAt r 0≠3):Qy (Qcr n++r) 0=.tok ⟨2,Qcr n,n,0⟩ (Qcr n).length:=by
 have hlt:n<10 ^ (18+1):=by omega
 have hd:=QsW 18 n hlt;have hp:=Qlg 18 n;have hh:=λh0=>Qoo 18 n hlt h0;have hn:=Qpv 18 n hlt h;have hz:n=0->Qbu 18 n=[48]:=λh=>by subst h; rfl
 show Qy (Qbu 18 n++r) 0=_;unfold Qcr;generalize Qbu 18 n=s at *;have hne:s≠[]:=Yl.1 hp;have hru:=QsV (cs:=[3]) (s:=s) (r:=r) (λi hi=>by simpa using Qoj hd hi) (by simpa using hr);unfold Qy;rw[Qmz hne,Qoj hd hp,Zm (by decide),Zm (by decide),Zn rfl,hru];unfold QQ;rw[Qnw];have hw:whE (s++r) 2 s 0=(0,(n:Int)):=by
  unfold whE;rw[Zm (by simp[hne]),Zm (by simp),Zm (by decide),Zm ?_,hn];rintro⟨g1,g2⟩;by_cases h0:n=0
  . rw[hz h0]at g1; simp at g1
  . exact hh (by omega) g2
 rw[hw,Zm (λh=>h rfl)]
theorem QvF {s r:ZE} (h:isSg s) (hr:s.length=2\/(r.getD 0 0≠61/\r.getD 0 0≠46)):Qy (s++r) 0=.tok ⟨3,s,0,0⟩ s.length:=by
 have h4:cAt s 0=4/\s≠[]/\Qbk (s++r) 0=s.length:=by
  rcases h with ⟨c,hc,rfl⟩|hd
  . have hr:r.getD 0 0≠61/\r.getD 0 0≠46:=by
     rcases hr with hr|hr
     . simp at hr
     . exact hr
    refine⟨?_,by simp,?_⟩
    . simp only[Qg7,Ve,VC,Zu]at hc;rcases hc with rfl|rfl|rfl|rfl|rfl|rfl|rfl|rfl|rfl|rfl|rfl|rfl|rfl|rfl|rfl<;>decide
    . have hnd:QdO (c::r)=false:=by
       cases r with
       |nil =>
        simp only[Qg7,Ve,VC,Zu]at hc;rcases hc with rfl|rfl|rfl|rfl|rfl|rfl|rfl|rfl|rfl|rfl|rfl|rfl|rfl|rfl|rfl<;>decide
       |cons d r =>
        have hd1:d≠61:=by simpa using hr.1
        have hd2:d≠46:=by simpa using hr.2
        simp[QdO,QaL,List.isPrefixOf,Ne.symm hd1,Ne.symm hd2]
      have hc33:c≠33/\c≠46:=by
       simp only[Qg7,Ve,VC,Zu]at hc;rcases hc with rfl|rfl|rfl|rfl|rfl|rfl|rfl|rfl|rfl|rfl|rfl|rfl|rfl|rfl|rfl<;>decide
      unfold Qbk;simp[hnd,hc33]
  . simp only[QaL,Ve,VC,Zu]at hd;have hp:QdO (s++r)=true:=by
     rcases hd with rfl|rfl|rfl|rfl|rfl<;>simp[QdO,QaL,List.isPrefixOf]
    refine⟨?_,?_,?_⟩
    . rcases hd with rfl|rfl|rfl|rfl|rfl<;>decide
    . rcases hd with rfl|rfl|rfl|rfl|rfl<;>simp
    . unfold Qbk;simp only[Yt,hp,Zs];rcases hd with rfl|rfl|rfl|rfl|rfl<;>rfl
 obtain⟨h4,h0,hs⟩:=h4;unfold Qy;rw[Qmz h0,h4,Zm (by decide),Zm (by decide),Zm (by decide),Zn rfl,hs];unfold QQ;rw[Qnw];have hw:whE (s++r) 3 s 0=(0,0):=by
  unfold whE;rw[Zm (by simp[h0]),Zm (by simp),Zn (by decide)]
 rw[hw,Zm (λh=>h rfl)]
theorem QuC {l l' tx:ZE} {k:Int} {p p':Nat} (h:k≠1):whE l k tx p=whE l' k tx p':=by
 unfold whE; simp[h]
theorem QsX {a b:ZE} (h:(a=[]\/cAt a (a.length-1)≠3)\/cAt b 0≠2):Qy (a++b) a.length=(Qy b 0).mv a.length:=by
 rcases h with h|h
 . exact Qr7 (p:=0) λ_=>h
 . have hm:∀ (k:Int) (q:Nat),k≠1->QQ (a++b) (a.length+0) k (a.length+q)=(QQ b 0 k q).mv a.length:=by
    intro k q hk;unfold QQ;rw[Qn8,QuC (l':=b) (p':=0) hk];split<;>rfl
   show Qy (a++b) (a.length+0)=_;unfold Qy;rw[Qel,Qje,Qje,QoO,Qmu,QkD,Zm h,Zm h,hm 2 _ (by decide),hm 3 _ (by decide),hm 0 0 (by decide)];split
   . rfl
   . split
     . rfl
     . split
       . rfl
       . split
         . first|rfl|(simp only[Stp.mv,V9,V7])
         . rfl
def TK.nV:TK->Int
 |.nm n=>n
 |_=>0
def Plc:Nat->List Pc->List Tok->Prop
 |_,[],ts=>ts=[]
 |n,.b _::r,ts=>Plc (n+1) r ts
 |n,.t k::r,t::ts=>t.p=n/\(t.tx=k.tx/\t.n=k.nV)/\Plc (n+k.tx.length) r ts
 |_,.t _::_,[]=>False
theorem Qh0:∀ (ps:List Pc),QcQ ps->∀ (a:ZE) (n:Nat),(txt ps).length<=n->((a=[]\/cAt a (a.length-1)≠3)\/cAt (txt ps) 0≠2) ->
 ∃ ts:List Tok,evs (a++txt ps) n a.length=ts.map .tok/\Qbo ts (tks ps)/\Plc a.length ps ts
 |[],_,a,n,_,_=>by
  refine⟨[],?_,.nil,rfl⟩
  cases n with
  |zero=>rfl
  |succ n=>simp[evs,txt]
 |.b c::r,hg,a,n,hn,hc=>by
  obtain⟨h1,h2⟩:=hg;rw[txt]at hn hc ⊢
  cases n with
  |zero=>simp at hn
  |succ n =>
   have hcl:cAt (c::txt r) 0=1:=by rcases h1 with rfl|rfl<;>rfl
   have hst:Qy (a++c::txt r) a.length=.skip (a.length+1):=by
    rw[QsX hc];unfold Qy;rw[hcl,Zn rfl]; rfl
   have e:a++c::txt r=(a++[c])++txt r:=by simp
   have hl:(a++[c]).length=a.length+1:=by simp
   obtain⟨ts,g1,g2,g3⟩:=Qh0 r h2 (a++[c]) n (by simpa using hn) (.inl (.inr (by
    have:=Qel (a:=a) (b:=[c]) (p:=0);rw[hl,Nat.add_sub_cancel,<- V9 a.length,this];rcases h1 with rfl|rfl<;>decide)))
   refine⟨ts,?_,g2,by rw[hl]at g3; exact g3⟩;rw[evs,Zn (by simp),hst];simp only;rw[e,<- hl];exact g1
 |.t k::r,hg,a,n,hn,hc=>by
  obtain⟨h1,h2,h3⟩:=hg;rw[txt]at hn hc ⊢;have hkt:∃ t:Tok,Qy (k.tx++txt r) 0=.tok t k.tx.length/\(QeF t k/\t.p=0/\t.tx=k.tx/\t.n=k.nV)/\0<k.tx.length/\((cAt k.tx (k.tx.length-1)≠3)\/cAt (txt r) 0≠2):=by
   cases k with
   |wd s=>exact⟨_,QBf h1 h2,⟨⟨rfl,rfl⟩,rfl,rfl,rfl⟩,Yl.2 h1.1,.inr h2.1⟩
   |nm n=>exact⟨_,Qu9 h1 h2.2,⟨⟨rfl,rfl⟩,rfl,rfl,rfl⟩,Qlg 18 n,.inr h2.1⟩
   |sg s =>
    refine⟨_,QvF h1 h2,⟨⟨rfl,rfl⟩,rfl,rfl,rfl⟩,?_,.inl ?_⟩
    . rcases h1 with ⟨c,_,rfl⟩|hd
      . exact Nat.one_pos
      . simp only[QaL,Ve,VC,Zu]at hd;rcases hd with rfl|rfl|rfl|rfl|rfl<;>decide
    . rcases h1 with ⟨c,hcs,rfl⟩|hd
      . simp only[Qg7,Ve,VC,Zu]at hcs;rcases hcs with rfl|rfl|rfl|rfl|rfl|rfl|rfl|rfl|rfl|rfl|rfl|rfl|rfl|rfl|rfl<;>decide
      . simp only[QaL,Ve,VC,Zu]at hd;rcases hd with rfl|rfl|rfl|rfl|rfl<;>decide
  obtain⟨t,ht,⟨hf,hp0,htx⟩,hp,hl⟩:=hkt
  cases n with
  |zero=>rw[Vj]at hn; omega
  |succ n =>
   have hst:Qy (a++(k.tx++txt r)) a.length=.tok (t.mv a.length) (a.length+k.tx.length):=by
    rw[QsX hc,ht]; rfl
   have e:a++(k.tx++txt r)=(a++k.tx)++txt r:=by simp
   have hal:(a++k.tx).length=a.length+k.tx.length:=by simp
   obtain⟨ts,g1,g2,g3⟩:=Qh0 r h3 (a++k.tx) n (by rw[Vj]at hn; omega) (by
    rcases hl with hl|hl
    . refine .inl (.inr ?_);have:=Qel (a:=a) (b:=k.tx) (p:=k.tx.length-1);rw[hal,show a.length+k.tx.length-1=a.length+(k.tx.length-1)by omega,this];exact hl
    . exact .inr hl)
   refine⟨t.mv a.length::ts,?_,.cons ?_ g2,by show a.length+t.p=_; omega,htx,by rw[hal]at g3; exact g3⟩
   . rw[evs,Zn (by simp; omega),hst];simp only[Vn];rw[e,<- hal,g1]
   . cases k<;>exact hf
theorem Ql6:∀ ts:List Tok,Qag (ts.map .tok)=ts
 |[]=>rfl
 |t::r=>by simp[Qag,Ql6 r]
theorem Qnv {ps:List Pc} (hg:QcQ ps) (hf:(Qv (txt ps)).2.1=0):Qbo (Qv (txt ps)).1 (tks ps):=by
 obtain⟨ts,g1,g2,_⟩:=Qh0 ps hg [] (txt ps).length (Vb _) (.inl (.inl rfl));have g1:Qaz (txt ps)=ts.map .tok:=g1;unfold Qv at hf ⊢;split at hf
 . exact absurd hf (by decide)
 . rename_i h1;split at hf
   . rename_i h2;rw[Zm h1,Zn h2,g1,Ql6]; exact g2
   . rename_i h2; exact absurd hf h2
theorem Qt9 {s:ZE} {cs:List Int} {i:Nat} (hi:cAt s i∉cs):∀ k,k<=i->Qan s cs (i-k)<=i:=by
 intro k
 induction k with
 |zero=>intro _; rw[Nat.sub_zero,QhY (λh=>hi h.2)]; exact Vb _
 |succ k ih =>
  intro hk;by_cases h:i-(k+1)<s.length/\cAt s (i-(k+1))∈cs
  . rw[Qmx h.1 h.2,show i-(k+1)+1=i-k by omega]; exact ih (by omega)
  . rw[QhY h]; omega
theorem QvZ {s:ZE} {cs:List Int} (h:Qan s cs 0=s.length) {i:Nat} (hi:i<s.length):cAt s i∈cs:=by
 by_cases hc:cAt s i∈cs
 . exact hc
 . have:=Qt9 hc i (Vb _);rw[Nat.sub_self]at this;omega
theorem Qxe {s:ZE} (h:Qcj 1 s 0=0):Qjs s:=by
 unfold Qcj at h;split at h
 . exact absurd h (by decide)
 . rename_i h0;have hne:s≠[]:=λe=>h0 (.inl e);have c1:cAt s 0≠1:=λe=>h0 (.inr (.inr (.inr (.inl e))));have c5:s.getD 0 0≠35:=λe=>h0 (.inr (.inr (.inr (.inr e))));split at h
   . rename_i t q hst;split at h
     . exact absurd h (by decide)
     . rename_i hq;have hq1:q=s.length:=by
        by_cases e:q=s.length
        . exact e
        . exact absurd (.inl e) hq
       have hk:t.k=1:=by
        by_cases e:t.k=1
        . exact e
        . exact absurd (.inr e) hq
       unfold Qy at hst;rw[Zm c1]at hst;have key:∀ k q',QQ s 0 k q'=.tok t q->t.k=k/\q=q'/\(whE s k (cut s 0 q') 0).1=0:=by
        intro k q' hm;unfold QQ at hm;split at hm
        . cases hm
        . rename_i hw;injection hm with a b;refine⟨?_,b.symm,?_⟩
          . rw[<-a]
          . by_cases e:(whE s k (cut s 0 q') 0).1=0
            . exact e
            . exact absurd e hw
       split at hst
       . rename_i c2;obtain⟨_,k2,k3⟩:=key _ _ hst;have hr:Qan s [2,3] 0=s.length:=by omega
         refine⟨hne,c2,λi hi=>by simpa using QvZ hr hi,?_⟩;rw[hr]at k3;have hcut:cut s 0 s.length=s:=by simp[cut]
         rw[hcut]at k3;unfold whE at k3;split at k3
         . exact absurd k3 (show ¬ (11:Int)=0 by decide)
         . split at k3
           . exact absurd k3 (show ¬ (4:Int)=0 by decide)
           . rename_i h40; omega
       . split at hst
         . obtain⟨k1,_⟩:=key _ _ hst; omega
         . split at hst
           . obtain⟨k1,_⟩:=key _ _ hst; omega
           . first
             | (obtain⟨k1,_⟩:=key _ _ hst; omega)
             | (rw[Zm c5]at hst; obtain⟨k1,_⟩:=key _ _ hst; omega)
   . exact absurd h (by decide)
def Rem (c:Cx) (a:Nat) (L:List TK):Prop:=Qbo (c.ts.drop a) L
theorem Rem.lt {c:Cx} {a:Nat} {k:TK} {L:List TK} (h:Rem c a (k::L)):∃ h:a<c.ts.length,QeF c.ts[a] k:=by
 unfold Rem at h;by_cases ha:a<c.ts.length
 . rw[VS ha]at h
   cases h with
   |cons h1 h2=>exact⟨ha,h1⟩
 . rw[V1 (by omega)]at h; cases h
theorem Rem.next {c:Cx} {a:Nat} {k:TK} {L:List TK} (h:Rem c a (k::L)):Rem c (a+1) L:=by
 obtain⟨ha,_⟩:=h.lt;unfold Rem at h ⊢;rw[VS ha]at h
 cases h with
 |cons h1 h2=>exact h2
theorem Rem.end {c:Cx} {a:Nat} (h:Rem c a []):c.ts.length<=a:=by
 by_cases ha:a<c.ts.length
 . unfold Rem at h;rw[VS ha]at h
   cases h
 . omega
def pk (L:List TK) (s:ZE):Bool:=match L with
 |.wd w::_=>decide (w=s)
 |.sg w::_=>decide (w=s)
 |_=>false
def Qen (L:List TK):Bool:=match L with
 |.wd w::_ => !decide (w∈QaU)
 |_=>false
def isn (L:List TK):Bool:=match L with
 |.nm _::_=>true
 |_=>false
structure Sta (c:Cx) (d:Nat) (r:Rd) (L:List TK):Prop where
 e:r.e=0
 rem:Rem c r.a L
 v:r.v+d=40
 d:d<=40
theorem Sta.peek {c:Cx} {d:Nat} {r:Rd} {L:List TK} (h:Sta c d r L) (s:ZE):Qd c s r=pk L s:=by
 unfold Qd Qal;rw[h.e]
 cases L with
 |nil =>
  have:=h.rem.end;rw[Zz (by omega)]; rfl
 |cons k L =>
  obtain⟨ha,hf⟩:=h.rem.lt;rw[Zy ha]
  cases k with
  |wd w=>simp[pk,hf.1,hf.2]
  |sg w=>simp[pk,hf.1,hf.2]
  |nm n=>simp[pk,hf.1]
theorem Sta.free {c:Cx} {d:Nat} {r:Rd} {L:List TK} (h:Sta c d r L):QP c r=Qen L:=by
 unfold QP Qal;rw[h.e]
 cases L with
 |nil =>
  have:=h.rem.end;rw[Zz (by omega)]; rfl
 |cons k L =>
  obtain⟨ha,hf⟩:=h.rem.lt;rw[Zy ha]
  cases k with
  |wd w=>simp[hf.1,hf.2,Qen]
  |sg w=>simp[hf.1,Qen]
  |nm n=>simp[hf.1,Qen]
theorem Sta.num {c:Cx} {d:Nat} {r:Rd} {L:List TK} (h:Sta c d r L):QaW c r=isn L:=by
 unfold QaW Qal;rw[h.e]
 cases L with
 |nil =>
  have:=h.rem.end;rw[Zz (by omega)]; rfl
 |cons k L =>
  obtain⟨ha,hf⟩:=h.rem.lt;rw[Zy ha]
  cases k with
  |wd w=>simp[hf.1,isn]
  |sg w=>simp[hf.1,isn]
  |nm n=>simp[hf.1,isn]
theorem Sta.next {c:Cx} {d:Nat} {r:Rd} {k:TK} {L:List TK} (h:Sta c d r (k::L)):Sta c d (Qa r) L:=⟨h.e,h.rem.next,h.v,h.d⟩
theorem Sta.take {c:Cx} {d:Nat} {r:Rd} {k:TK} {L:List TK} {s:ZE} (h:Sta c d r (k::L)) (hk:pk (k::L) s=true):(Qh c s r).2=Qa r/\Sta c d (Qh c s r).2 L:=by
 have e:(Qh c s r).2=Qa r:=by unfold Qh; rw[h.peek,Zn hk]
 exact⟨e,e ▸ h.next⟩
theorem Sta.word {c:Cx} {d:Nat} {r:Rd} {w:ZE} {L:List TK} (h:Sta c d r (.wd w::L)) (hw:w∉QaU):QO c r=(w,Qa r)/\Sta c d (Qa r) L:=by
 refine⟨?_,h.next⟩
 obtain⟨ha,hf⟩:=h.rem.lt;unfold QO;rw[Zn (by rw[h.free]; simpa[Qen]using hw),VB,Vd ha];simp[hf.2]
theorem Sta.numb {c:Cx} {d:Nat} {r:Rd} {n:Nat} {L:List TK} (h:Sta c d r (.nm n::L)):nmR c r=((n:Int),Qa r)/\Sta c d (Qa r) L:=by
 refine⟨?_,h.next⟩
 obtain⟨ha,hf⟩:=h.rem.lt;unfold nmR;rw[Zn (by rw[h.num]; rfl),VB,Vd ha];simp[hf.2]
mutual
def Ex.er:Ex->Ex
 |.mk op n nm l _=>.mk op n nm (Ex.erL l) 0
def Ex.erL:List Ex->List Ex
 |[]=>[]
 |e::r=>e.er::Ex.erL r
end
theorem ne5 {x:Int} (h:x=5):x≠0:=by omega
def Qb2 (ops:List (ZE×Int)) (L:List TK):Prop:=∀ o∈ops,pk L o.1=false
theorem Qq9 {c:Cx} {ops:List (ZE×Int)} {r:Rd} (h:∀ o∈ops,Qd c o.1 r=false):Qam c ops r=none:=by
 unfold Qam;rw[Option.map_eq_none_iff,Y3];intro o ho; rw[h o ho]; decide
theorem Sta.none {c:Cx} {d:Nat} {r:Rd} {L:List TK} {ops:List (ZE×Int)} (h:Sta c d r L) (hn:Qb2 ops L):Qam c ops r=none:=Qq9 λo ho=>by rw[h.peek]; exact hn o ho
theorem Sta.some {c:Cx} {d:Nat} {r:Rd} {k:TK} {L:List TK} {ops:List (ZE×Int)} {s:ZE} {op:Int} (h:Sta c d r (k::L)) (hk:k=.sg s\/k=.wd s) (hf:(ops.find? λo=>decide (s=o.1)).map (·.2)=.some op):Qam c ops r=.some op:=by
 unfold Qam;have e:(λo:ZE×Int=>Qd c o.1 r)=λo=>decide (s=o.1):=by
  funext o;rw[h.peek];rcases hk with rfl|rfl<;>rfl
 rw[e]; exact hf
theorem Qd8 {c:Cx} {ops:List (ZE×Int)} {f:Rd->Ex×Rd} {e:Ex} {r:Rd} (h:Qam c ops r=.none) (n:Nat):QaX c ops f n e r=(e,r):=by
 cases n with
 |zero=>rfl
 |succ n=>rw[QaX,h]
section
variable {c:Cx} {d:Nat}
variable {cmp ntP orP facP:Rd->Ex×Rd} {l la:List TK} {e a:Ex} {st sa:List TK->Prop}
theorem QiL:∀ a b:List Ex,Ex.erL (a++b)=Ex.erL a++Ex.erL b
 |[],b=>rfl
 |e::a,b=>by simp[Ex.erL,QiL a b]
end
mutual
def Qmg:Ex->Bool
 |.mk op n nm l _=>decide ((l.length:Int)=opN op)&&((decide (op=1)||decide (n=0))&&((decide (op=2)||decide (nm=[]))&&((!decide (op=2)||Qb8 nm)&&(decide (0<=n)&&(decide (n<=1000000000)&&Qlq l)))))
def Qlq:List Ex->Bool
 |[]=>true
 |e::r=>Qmg e&&Qlq r
end
theorem QFG {op n p:Int} {nm:ZE} {l:List Ex}:Qmg (.mk op n nm l p)=true↔(l.length:Int)=opN op/\(op=1\/n=0)/\(op=2\/nm=[])/\(op≠2\/Qb8 nm=true)/\0<=n/\n<=1000000000/\Qlq l=true:=by
 rw[Qmg];simp only[Va,V3,Zq,VI,ZB,ne_eq]
theorem QuE {s:ZE} (h:Qb8 s=true):Qjs s/\s∉QaU:=by
 unfold Qb8 at h;simp only[Va,Zq,VI,ZB]at h;exact⟨Qxe h.1,h.2⟩
section
variable {c:Cx}
def l1 (c:Cx) (d:Nat):Rd->Ex×Rd:=Q7 c Qa6 (lv c d).fac
def l2 (c:Cx) (d:Nat):Rd->Ex×Rd:=Q7 c Qbe (l1 c d)
def l3 (c:Cx) (d:Nat):Rd->Ex×Rd:=QaP c (l2 c d)
theorem Qr8 (d:Nat):Qq (lv c d).fac:=by
 cases d with
 |zero=>exact Qfp
 |succ d=>exact Qfp
section
variable {d:Nat} {l:List TK} {e:Ex}
abbrev any (_:List TK):Prop:=True
end
end
def kwG:ZE:=[103,97,109,101]
def Qid:ZE:=[112,108,97,121,101,114,115]
def kwV:ZE:=[118,97,114]
def kwD:ZE:=[100,101,97,108]
def kwI:ZE:=[105,110]
def kwW:ZE:=[119,101,105,103,104,116]
def kwS:ZE:=[115,101,101,110]
def kwB:ZE:=[98,121]
def kwA:ZE:=[97,108,108]
def kwT:ZE:=[116,117,114,110]
def Qh1:ZE:=[97,99,116,105,111,110]
def Qie:ZE:=[119,104,101,110]
def kwH:ZE:=[104,105,100,100,101,110]
def QhB:ZE:=[103,111,116,111]
def kwE:ZE:=[101,110,100]
def kwP:ZE:=[112,97,121]
def Qo.er (s:Qo):Qo:=⟨s.nm,s.e.er,0⟩
def Qm.er (a:Qm):Qm:=⟨a.nm,Ex.erL a.wh,a.hid,a.sets.map Qo.er,a.go,0⟩
def Qb.er (x:Qb):Qb:=⟨x.k,x.lb,x.nm,x.lo,x.hi,Ex.erL x.wt,x.all,x.seen,Ex.erL x.who,x.acts.map Qm.er,Ex.erL x.pays,0⟩
def Ql.er (v:Ql):Ql:=⟨v.nm,v.n,0⟩
def Qx.er (r:Qx):Qx:=⟨r.nm,r.pl,r.vars.map Ql.er,r.stages.map Qb.er⟩
def Qdr (w:ZE) (b:Bool):List Pc:=if b=true then [.b 32,.t (.wd w)]else []
section
variable {c:Cx}
theorem QX {α:Type} {F:Rd->α×Rd} {r:Rd} (hs:Qq F) (h:(F r).2.e=0):r.e=0:=by
 by_cases he:r.e=0
 . exact he
 . rw[hs r he]at h; exact absurd h he
theorem t2b {s:ZE} {r:Rd} (h:(t2 c s r).e=0):r.e=0:=QX (QdE s) h
theorem Qdf {e:Int} (he:e≠0) (r:Rd):(Qg c e r).e≠0:=by
 unfold Qg;split
 . exact he
 . rename_i h; exact h
theorem Sta.t2 {d:Nat} {r:Rd} {k:TK} {L:List TK} {s:ZE} (h:Sta c d r (k::L)) (hk:pk (k::L) s=true):Sta c d (t2 c s r) L:=(h.take hk).2
theorem QAj:Qq (orT c):=Qh8 c 40
theorem Sta.len {d:Nat} {r:Rd} {L:List TK} (h:Sta c d r L):L.length<=c.ts.length:=by
 have key:∀ {ts:List Tok} {ks:List TK},Qbo ts ks->ts.length=ks.length:=by
  intro ts ks h
  induction h with
  |nil=>rfl
  |cons _ _ ih=>simp[ih]
 have:=key h.rem;rw[YC]at this;omega
end
section
variable {c:Cx}
theorem QmA (n:Nat) (l:List Int):Qq (QaB c n l):=by
 cases n with
 |zero=>intro r h; rfl
 |succ n=>intro r h; rw[QaB,Zm (by rw[QaE h]; decide)]
end
section
variable {c:Cx}
theorem QqH (n:Nat) (l:List Ql):Qq (Q6 c n l):=by
 cases n with
 |zero=>intro r h; rfl
 |succ n=>intro r h; rw[Q6,Zm (by rw[QaE h]; decide)]
theorem QpY (n:Nat) (l:List Qb):Qq (QF c (orT c) n l):=by
 cases n with
 |zero=>intro r h; rfl
 |succ n=>intro r h; rw[QF,Zm (λh2=>h h2.1)]
end
theorem QwE {d:Nat} (h:d<=9):Utf8.encode ((48:Int)+(d:Int))=B [UInt8.ofNat (48+d)]:=by
 have:d=0\/d=1\/d=2\/d=3\/d=4\/d=5\/d=6\/d=7\/d=8\/d=9:=by omega
 rcases this with rfl|rfl|rfl|rfl|rfl|rfl|rfl|rfl|rfl|rfl<;>decide
section
variable {H:ZG}
theorem Qxz {x n:Int} (hn:1<=n):(if x.tmod n<0 then x.tmod n+n else x.tmod n)=x % n:=by
 rw[Int.tmod_eq_emod];have h1:=YJ x (show n≠0 by omega);have h2:=Zl x (show 0<n by omega);have h3:n ∣ x->x % n=0:=Int.emod_eq_zero_of_dvd;split
 . split
   . omega
   . simp
 . rename_i h;have h4:(n.natAbs:Int)=n:=by omega
   split
   . omega
   . rename_i h5;have:¬ n ∣ x:=λhd=>h (.inr hd);have:x % n≠0:=λe=>this (Int.dvd_of_emod_eq_zero e);omega
theorem Qxv {x n:Int} (hn:1<=n) : -n<x.tmod n/\x.tmod n<n:=by
 have h1:=Int.tmod_lt_of_pos x (show 0<n by omega);have h2 : -(x.tmod n)<n:=by rw[<-Int.neg_tmod]; exact Int.tmod_lt_of_pos _ (by omega)
 omega
theorem ok27 (x n:Int) (h1:1<=n) (h2:n<=9223372036854775807):Ok Tryz.prog 27 [i64 x,i64 n] H (.ret (i64 (x % n))) H:=by
 refine Qz hm Tryz.func27 c27 (by simp) λhcl => ?_;have hb:=Qxv (x:=x) h1;have hf:=Qxz (x:=x) h1;simp -implicitDefEqProofs[i27,r27,show ¬ n=0 by omega];split
 . rename_i h;rw[Zn h]at hf;rw[Qae (by omega) (by omega),hf]; exact Qi
 . rename_i h;rw[Zm h]at hf;rw[hf]; exact Qi
def drO (l:List Int) (a:Nat):AO:=⟨[.slc (QE l) l.length,i64 a],102,0,true⟩
def nxD (l:List Int) (a n:Nat):Nat×Nat:=if l.length<=a\/n<1 then(0,a)else((l.getD a 0 % (n:Int)).toNat,a+1)
theorem QS {l:List Int} {a n:Nat} (h:a<=l.length):(nxD l a n).2<=l.length:=by unfold nxD; split<;>simp<;>omega
theorem Qab {l:List Int} {a n:Nat} (h:1<=n):(nxD l a n).1<n:=by
 unfold nxD;split
 . simp; omega
 . have h1:=YJ (l.getD a 0) (show(n:Int)≠0 by omega);have h2:=Zl (l.getD a 0) (show 0<(n:Int)by omega);simp only; omega
theorem ok64 {j:Nat} {l:List Int} {a:Nat} (ho:H[j]? = some (drO l a)) (ha:a<=l.length) (hl:l.length<4611686018427387904) (n:Nat) (hn:n<=9223372036854775807) :
 Ok Tryz.prog 64 [rp j,i64 n] H (.ret (i64 ((nxD l a n).1:Nat))) (H.set j (drO l (nxD l a n).2)):=by
 have e1:Qn H j 0=[.slc (QE l) l.length,i64 a]:=Qap (o:=drO l a) ho rfl;have e2:∀ f:AO->AO,Ab.setObj H j f=H.set j (f (drO l a)):=λf=>QbX ho f;have e3:∀ o:AO,o.live=true->o.ver=0->Qn (H.set j o) j 0=o.cells:=by
  intro o h1 h2;have:=Qap (H:=H.set j o) (i:=j) (o:=o) (by rw[Vo (Qj ho)]) h1;rw[h2]at this; exact this
 have e4:H.set j (drO l a)=H:=by
  apply V4;intro i;by_cases h:j=i
  . subst h; rw[Vo (Qj ho),ho]
  . rw[Vf h]
 refine Qz hm Tryz.func64 c64 (by simp) λhcl => ?_;by_cases h1:l.length<=a
 . simp -implicitDefEqProofs[QjB,r64,e1,h1,show(l.length:Int)<=a by omega,nxD,e4,rp];exact Qi
 . by_cases h2:n<1
   . simp -implicitDefEqProofs[QjB,r64,e1,h1,show ¬ (l.length:Int)<=a by omega,nxD,e4,show n=0 by omega,rp];exact Qi
   . have hlt:a<l.length:=by omega
     have e5:IntKind.i64.wrap ((a:Int)+1)=(a:Int)+1:=QaH (by omega);have e6:IntKind.i64.wrap (a:Int)=(a:Int):=QeU (by omega);have hp:¬ n=0:=by omega
     have hp2:¬ (n:Int)<1:=by omega
     simp -implicitDefEqProofs[QjB,r64,e1,h1,show ¬ (l.length:Int)<=a by omega,nxD,e2,hp,hp2,drO,e3,e5,e6,hlt,rp];refine⟨by omega,?_⟩;refine QeW (λ_=>ok27 l[a] n (by omega) (by omega)) ?_;have:=YJ l[a] (show(n:Int)≠0 by omega);simp -implicitDefEqProofs[show max (l[a] % (n:Int)) 0=l[a] % (n:Int)by omega];exact Qi
def dg (n:Nat):ZE:=[UInt8.ofNat (48+n)]
theorem Qej {n:Nat} (h:n<=9):Ok Tryz.prog 65 [i64 n] H (.ret (st (B (dg n)))) H:=by
 refine Qz hm Tryz.func65 c65 (by simp) λhcl => ?_;have he:Utf8.encode ((48:Int)+(n:Int))=B (dg n):=QwE h;have hd:(dg n).length=1:=rfl;have hz:n=0->dg n=[48]:=λh=>by subst h; rfl
 generalize dg n=t at he hd hz ⊢;have hr:∀ {N:Nat} {env:Env} {K:ZF} {tx:ZE},env.get 4=i64 0->env.get 3=st (B tx)->(∀ env,env.get 3=st (B tx)->env.get 0=i64 n->K (.exit 0) env H)->env.get 0=i64 n->LI Tryz.prog N Qf QjJ env H K:=by
  intro N env K tx h4 h3 hk h0;refine Qu hm QjJ.eq_1 ?_;simp -implicitDefEqProofs[h4];refine hk _ ?_ ?_
  . simp[h3]
  . simp[h0]
 by_cases h0:n=0
 . subst h0;simp -implicitDefEqProofs[i65,r65];refine hr (tx:=[]) rfl rfl (λenv h3 h0 => ?_) (by simp);rw[hz rfl];simp -implicitDefEqProofs[h0];exact Qi
 . have g1:¬ (n:Int)=0:=by omega
   simp -implicitDefEqProofs[i65,r65];refine Qu hm QjJ.eq_1 ?_;have t1:(n:Int).tmod 10=n:=by rw[Int.tmod_eq_emod_of_nonneg (by omega)]; omega
   have t2:(n:Int).tdiv 10=0:=by rw[Int.tdiv_eq_ediv_of_nonneg (by omega)]; omega
   have w2:IntKind.i64.wrap (-(n:Int)) = -n:=Qae (by omega) (by omega);have w3:IntKind.i64.wrap (48+(n:Int))=48+(n:Int):=Qae (by omega) (by omega);have w4:IntKind.i32.wrap (48+(n:Int))=48+(n:Int):=by unfold IntKind.wrap; simp[IntKind.bits,IntKind.signed]; omega
   have w6:max (n:Int) (-n)=n:=by omega
   simp -implicitDefEqProofs[h0,t1,t2,w2,w3,w4,w6,he,QT];refine⟨⟨rfl,by show(B t).size<=_; rw[QT,hd]; decide⟩,?_⟩;have e0:(SV.val (Value.string (B t))).str++{ data := #[] }=B t:=by
    show B t++ByteArray.empty=B t;apply ByteArray.ext; simp
   refine hr (tx:=t) ?_ ?_ (λenv h3 h00 => ?_) ?_
   . simp -implicitDefEqProofs[show IntKind.i64.wrap 0=0 from rfl]
   . simp -implicitDefEqProofs[e0]
   . simp -implicitDefEqProofs[h3,h00,h0];exact Qi
   . simp
end
def vN (x:Nat):ZE:=[118]++dg x
structure GX where
 k:Nat
 x:Nat
 y:Nat
def gx (l:List Int) (v n a:Nat):GX×Nat :=
 (⟨(nxD l (nxD l (nxD l a v).2 v).2 n).1,(nxD l a v).1,(nxD l (nxD l a v).2 v).1⟩,(nxD l (nxD l (nxD l a v).2 v).2 n).2)
def exT (k:Nat) (x y:ZE):ZE :=
 if k=0 then x++[32,43,32]++y
 else if k=1 then x++[32,45,32,50,32,42,32]++y
 else if k=2 then [109,97,120,40]++x++[44,32]++y++[41]
 else if k=3 then [105,102,40]++x++[32,60,32]++y++[44,32,49,44,32,45,49,41]
 else if k=4 then [109,105,110,40]++x++[44,32,51,41,32,43,32,49]
 else if k=5 then [45]++x
 else if k=6 then [40]++x++[32,43,32,55,41,32,37,32,51]
 else x
def cdT (k:Nat) (x y:ZE):ZE :=
 if k=0 then x++[32,60,32,49]
 else if k=1 then x++[32,62,61,32]++y++[32,97,110,100,32,110,111,116,32]++y++[32,61,61,32,50]
 else if k=2 then x++[32,33,61,32,48,32,111,114,32]++y++[32,62,32,49]
 else [110,111,116,32]++x++[32,60,61,32,48]
def exB (g:GX):ZE:=exT g.k (vN g.x) (vN g.y)
def cdB (g:GX):ZE:=cdT g.k (vN g.x) (vN g.y)
theorem Qma (g:GX):(exB g).length<=40:=by
 unfold exB exT;repeat' split
 all_goals simp[vN,dg]
theorem Qhz (g:GX):(cdB g).length<=40:=by
 unfold cdB cdT;repeat' split
 all_goals simp[vN,dg]
theorem QfF {l:List Int} {v n a:Nat} (h:a<=l.length):(gx l v n a).2<=l.length:=QS (QS (QS h))
section
variable {H:ZG} {j:Nat} {l:List Int} {a:Nat}
theorem Qzk {o o':AO} (ho:H[j]? = some o):(H.set j o')[j]? = some o':=Vo (Qj ho)
abbrev mvD (H:ZG) (j:Nat) (l:List Int) (a:Nat):ZG:=H.set j (drO l a)
theorem QqT (b:Nat):mvD (mvD H j l b) j l a=mvD H j l a:=VA ..
theorem Qkc (ho:H[j]? = some (drO l a)) (b:Nat):(mvD H j l b)[j]? = some (drO l b):=Qzk ho
theorem Qvw (L:ZG) (ho:H[j]? = some (drO l a)):(H++L)[j]? = some (drO l a):=by rw[Vc (Qj ho)]; exact ho
def Dr (H:ZG) (j:Nat) (l:List Int):Prop:=∃ a,H[j]? = some (drO l a)
theorem Dr.app (h:Dr H j l) (L:ZG):Dr (H++L) j l:=by obtain⟨a,h⟩:=h; exact⟨a,Qvw L h⟩
theorem Dr.lt (h:Dr H j l):j<H.length:=by obtain⟨a,h⟩:=h; exact Qj h
theorem Dr.at (h:Dr H j l) (b:Nat) (L:ZG):(mvD H j l b++L)[j]? = some (drO l b):=by
 rw[Vc (by rw[V8]; exact h.lt)];exact Vo h.lt
theorem Dr.mv (h:Dr H j l) (b c:Nat) (L:ZG):mvD (mvD H j l b++L) j l c=mvD H j l c++L:=by
 unfold mvD;rw[Vl _ _ (by rw[V8]; exact h.lt),VA]
theorem QAb (ho:H[j]? = some (drO l a)):mvD H j l a=H:=by
 apply V4;intro i;by_cases h:j=i
 . subst h; rw[Vo (Qj ho),ho]
 . rw[Vf h]
variable (ho:H[j]? = some (drO l a)) (ha:a<=l.length) (hl:l.length<4611686018427387904)
include ho ha hl
theorem QiF (n:Nat) (hn:n<=9223372036854775807):Ok Tryz.prog 64 [rp j,i64 n] H (.ret (i64 ((nxD l a n).1:Nat))) (mvD H j l (nxD l a n).2):=ok64 ho ha hl n hn
theorem QiJ {v:Nat} (hv:1<=v) (h3:v<=3):Ok Tryz.prog 121 [rp j,i64 v] H (.ret (st (B (vN (nxD l a v).1)))) (mvD H j l (nxD l a v).2):=by
 refine Qz hm Tryz.func121 c121 (by simp[rp]) λhcl => ?_;have hx:=Qab (l:=l) (a:=a) hv;simp[i121,r121];refine Qc (QiF ho ha hl v (by omega)) ?_;simp;refine Qc (Qej (by omega)) ?_;simp[vN,QT,dg];exact Qi
theorem ok69 {v:Nat} (hv:1<=v) (h3:v<=3):Ok Tryz.prog 69 [rp j,i64 v] H (.ret (st (B (exB (gx l v 8 a).1)))) (mvD H j l (gx l v 8 a).2):=by
 refine Qz hm Tryz.func69 c69 (by simp[rp]) λhcl => ?_;have h1:=QiJ ho ha hl hv h3;have h2:=QiJ (Qkc ho _) (QS ha) hl hv h3 (a:=(nxD l a v).2);have h37:=QiF (Qkc ho _) (QS (QS ha)) hl 8 (by omega) (a:=(nxD l (nxD l a v).2 v).2);have hk:=Qab (l:=l) (a:=(nxD l (nxD l a v).2 v).2) (n:=8) (by omega);simp only[QqT]at h2 h37;unfold exB gx;generalize nxD l (nxD l (nxD l a v).2 v).2 8=kk at *;generalize nxD l (nxD l a v).2 v=yy at *;generalize nxD l a v=xx at *;obtain⟨k,a3⟩:=kk;obtain⟨y,a2⟩:=yy;obtain⟨x,a1⟩:=xx;simp only at *;have lx:(vN x).length=2:=rfl;have ly:(vN y).length=2:=rfl;generalize vN x=tx at *;generalize vN y=ty at *;simp[i69,r69];refine Qc h1 ?_;simp;refine Qc h2 ?_;simp;refine Qc h37 ?_;have hk8:k=0\/k=1\/k=2\/k=3\/k=4\/k=5\/k=6\/k=7:=by omega
 rcases hk8 with rfl|rfl|rfl|rfl|rfl|rfl|rfl|rfl
 all_goals
  simp[exT,QT,lx,ly];exact Qi
theorem Qyu {v:Nat} (hv:1<=v) (h3:v<=3):Ok Tryz.prog 122 [rp j,i64 v] H (.ret (st (B (cdB (gx l v 4 a).1)))) (mvD H j l (gx l v 4 a).2):=by
 refine Qz hm Tryz.func122 c122 (by simp[rp]) λhcl => ?_;have h1:=QiJ ho ha hl hv h3;have h2:=QiJ (Qkc ho _) (QS ha) hl hv h3 (a:=(nxD l a v).2);have h37:=QiF (Qkc ho _) (QS (QS ha)) hl 4 (by omega) (a:=(nxD l (nxD l a v).2 v).2);have hk:=Qab (l:=l) (a:=(nxD l (nxD l a v).2 v).2) (n:=4) (by omega);simp only[QqT]at h2 h37;unfold cdB gx;generalize nxD l (nxD l (nxD l a v).2 v).2 4=kk at *;generalize nxD l (nxD l a v).2 v=yy at *;generalize nxD l a v=xx at *;obtain⟨k,a3⟩:=kk;obtain⟨y,a2⟩:=yy;obtain⟨x,a1⟩:=xx;simp only at *;have lx:(vN x).length=2:=rfl;have ly:(vN y).length=2:=rfl;generalize vN x=tx at *;generalize vN y=ty at *;simp[i122,r122];refine Qc h1 ?_;simp;refine Qc h2 ?_;simp;refine Qc h37 ?_;have hk4:k=0\/k=1\/k=2\/k=3:=by omega
 rcases hk4 with rfl|rfl|rfl|rfl
 all_goals
  simp[cdT,QT,lx,ly];exact Qi
end
section
variable {H:ZG} {j:Nat} {l:List Int} {a:Nat}
variable (hd:Dr H j l) (ha:a<=l.length) (hl:l.length<4611686018427387904) (L:ZG)
include hd ha hl
theorem Qb0 (n:Nat) (hn:n<=9223372036854775807):Ok Tryz.prog 64 [rp j,i64 n] (mvD H j l a++L) (.ret (i64 ((nxD l a n).1:Nat))) (mvD H j l (nxD l a n).2++L):=by
 have:=QiF (hd.at a L) ha hl n hn; rwa [hd.mv]at this
theorem go71 {v:Nat} (hv:1<=v) (h3:v<=3):Ok Tryz.prog 121 [rp j,i64 v] (mvD H j l a++L) (.ret (st (B (vN (nxD l a v).1)))) (mvD H j l (nxD l a v).2++L):=by
 have:=QiJ (hd.at a L) ha hl hv h3; rwa [hd.mv]at this
theorem go42 {v:Nat} (hv:1<=v) (h3:v<=3):Ok Tryz.prog 69 [rp j,i64 v] (mvD H j l a++L) (.ret (st (B (exB (gx l v 8 a).1)))) (mvD H j l (gx l v 8 a).2++L):=by
 have:=ok69 (hd.at a L) ha hl hv h3; rwa [hd.mv]at this
theorem QnS {v:Nat} (hv:1<=v) (h3:v<=3):Ok Tryz.prog 122 [rp j,i64 v] (mvD H j l a++L) (.ret (st (B (cdB (gx l v 4 a).1)))) (mvD H j l (gx l v 4 a).2++L):=by
 have:=Qyu (hd.at a L) ha hl hv h3; rwa [hd.mv]at this
end
section
variable {c:Cx} {d:Nat}
def Red (c:Cx) (d:Nat) (F:Rd->Ex×Rd) (l:List TK) (e:Ex) (st:List TK->Prop):Prop :=
 ∀ r L,Sta c d r (l++L)->st L->Sta c d (F r).2 L/\(F r).1.er=e.er
variable {F:Rd->Ex×Rd} {l la lb:List TK} {e a b:Ex} {st sa sb:List TK->Prop} {ops:List (ZE×Int)}
theorem Red.mono {st':List TK->Prop} (h:Red c d F l e st) (hs:∀ L,st' L->st L):Red c d F l e st':=λr L h1 h2=>h r L h1 (hs L h2)
theorem Red.pass (h:Red c d F l e st):Red c d (Q7 c ops F) l e (λL=>st L/\Qb2 ops L):=by
 intro r L hs ⟨h1,h2⟩;obtain⟨hg,he⟩:=h r L hs h1;unfold Q7;rw[Qd8 (hg.none h2)]; exact⟨hg,he⟩
theorem Red.op {k:TK} {s:ZE} {op:Int} (ha:Red c d F la a sa) (hb:Red c d F lb b sb) (hk:k=.sg s\/k=.wd s) (hf:(ops.find? λo=>decide (s=o.1)).map (·.2)=.some op) (hs:∀ L,sa (k::L)) :
 Red c d (Q7 c ops F) (la++k::lb) (.mk op 0 [] [a,b] 0) (λL=>sb L/\Qb2 ops L):=by
 intro r L h ⟨h1,h2⟩;unfold Q7;rw[Vz]at h;obtain⟨hg,he⟩:=ha r _ h (hs _);have hpos:0<c.ts.length:=by obtain⟨hh,_⟩:=hg.rem.lt; omega
 obtain⟨n,hn⟩:∃ n,c.ts.length=n+1:=⟨c.ts.length-1,by omega⟩;rw[hn,QaX,hg.some hk hf];simp only;obtain⟨hg2,he2⟩:=hb _ L hg.next h1
 rw[Qd8 (hg2.none h2)];refine⟨hg2,?_⟩;simp only[Ex.er,Ex.erL,he,he2]
theorem Red.cpass (h:Red c d F l e st):Red c d (QaP c F) l e (λL=>st L/\Qb2 QaV L):=by
 intro r L hs ⟨h1,h2⟩;obtain⟨hg,he⟩:=h r L hs h1;unfold QaP;rw[hg.none h2]; exact⟨hg,he⟩
theorem Red.cop {k:TK} {s:ZE} {op:Int} (ha:Red c d F la a sa) (hb:Red c d F lb b sb) (hk:k=.sg s\/k=.wd s) (hf:(QaV.find? λo=>decide (s=o.1)).map (·.2)=.some op) (hs:∀ L,sa (k::L)) :
 Red c d (QaP c F) (la++k::lb) (.mk op 0 [] [a,b] 0) sb:=by
 intro r L h h1;unfold QaP;rw[Vz]at h;obtain⟨hg,he⟩:=ha r _ h (hs _);rw[hg.some hk hf];simp only;obtain⟨hg2,he2⟩:=hb _ L hg.next h1
 refine⟨hg2,?_⟩;simp only[Ex.er,Ex.erL,he,he2]
theorem Qlb {r:Rd} {L:List TK} {k:TK} {s:ZE} (h:Sta c (d+1) r (k::L)) (hk:pk (k::L) s=true):Sta c d (QB c s r).2 L:=by
 have hv:=h.v;have hd:=h.d;unfold QB;rw[h.peek,Zm (by rintro⟨_,h2⟩; omega)];have hw:IntKind.i64.wrap (r.v+1)=r.v+1:=Qae (by omega) (by omega);have hu:Sta c d (upR r) (k::L):=⟨h.e,h.rem,by show IntKind.i64.wrap (r.v+1)+(d:Int)=40; rw[hw]; omega,by omega⟩;exact(hu.take hk).2
theorem dnS {r:Rd} {L:List TK} (h:Sta c d r L) (hd:d+1<=40):Sta c (d+1) (dnR r) L:=by
 have hv:=h.v;have hw:IntKind.i64.wrap (r.v-1)=r.v-1:=Qae (by omega) (by omega);exact⟨h.e,h.rem,by show IntKind.i64.wrap (r.v-1)+((d+1:Nat):Int)=40; rw[hw]; omega,hd⟩
variable {cmp ntP orP facP:Rd->Ex×Rd}
theorem Red.npass (h:Red c d cmp l e st) (hn:∀ L,pk (l++L) [110,111,116]=false):Red c d (QaS c cmp ntP) l e st:=by
 intro r L hs h1;unfold QaS;rw[hs.peek,Zm (by rw[hn L]; decide)];exact h r L hs h1
theorem Red.nop (ha:Red c d ntP la a sa):Red c (d+1) (QaS c cmp ntP) (.wd [110,111,116]::la) (.mk 4 0 [] [a] 0) sa:=by
 intro r L hs h1;have ho:=Qlb (s:=[110,111,116]) hs rfl;unfold QaS;have hp:Qd c [110,111,116] r=true:=by rw[hs.peek]; rfl
 rw[Zn hp,Zm (λh=>h ho.e)];obtain⟨hg,he⟩:=ha _ L ho h1;exact⟨dnS hg hs.d,by simp only[Ex.er,Ex.erL,he]⟩
theorem Red.name {w:ZE} (hw:w∉QaU):Red c d (QL c orP facP) [.wd w] (.mk 2 0 w [] 0) (λ_=>True):=by
 intro r L hs _;have hs:Sta c d r (.wd w::L):=hs;unfold QL;rw[Zm (λh=>h hs.e),Zn (by rw[hs.free]; simpa[Qen]using hw)];obtain⟨h1,h2⟩:=hs.word hw;rw[h1];exact⟨h2,by simp only[Ex.er,Ex.erL]⟩
theorem Red.neg (ha:Red c d facP la a sa):Red c (d+1) (QL c orP facP) (.sg [45]::la) (.mk 3 0 [] [a] 0) sa:=by
 intro r L hs h1;have ho:=Qlb (s:=[45]) hs rfl;unfold QL;have hp:Qd c [45] r=true:=by rw[hs.peek]; rfl
 have hf:QP c r=false:=by rw[hs.free]; rfl
 rw[Zm (λh=>h hs.e),Zm (by rw[hf]; decide),Zn hp,Zm (λh=>h ho.e)];obtain⟨hg,he⟩:=ha _ L ho h1;exact⟨dnS hg hs.d,by simp only[Ex.er,Ex.erL,he]⟩
theorem Red.par (ha:Red c d orP la a sa) (hs:∀ L,sa (.sg [41]::L)):Red c (d+1) (QL c orP facP) (.sg [40]::(la++[.sg [41]])) a (λ_=>True):=by
 intro r L h _;have ho:=Qlb (s:=[40]) h rfl;unfold QL;have hp:Qd c [45] r=false:=by rw[h.peek]; rfl
 have hp2:Qd c [40] r=true:=by rw[h.peek]; rfl
 have hf:QP c r=false:=by rw[h.free]; rfl
 rw[Zm (λh2=>h2 h.e),Zm (by rw[hf]; decide),Zm (by rw[hp]; decide),Zn hp2,Zm (λh2=>h2 ho.e)];have ho:Sta c d (QB c [40] r).2 (la++(.sg [41]::L)):=by have:=ho; rwa [show(la++[TK.sg [41]]).append L=la++(.sg [41]::L)from Vz ..]at this
 obtain⟨hg,he⟩:=ha _ _ ho (hs _);exact⟨dnS (hg.take rfl).2 h.d,he⟩
theorem Red.num {n:Nat}:Red c d (QL c orP facP) [.nm n] (.mk 1 n [] [] 0) (λ_=>True):=by
 intro r L hs _;have hs:Sta c d r (.nm n::L):=hs;have hfd:QaT.find? (λw=>Qd c w.1 r)=none:=by
  rw[Y3];intro w _; rw[hs.peek]; exact Bool.false_ne_true
 unfold QL;have hp:Qd c [45] r=false:=by rw[hs.peek]; rfl
 have hp2:Qd c [40] r=false:=by rw[hs.peek]; rfl
 have hf:QP c r=false:=by rw[hs.free]; rfl
 rw[Zm (λh2=>h2 hs.e),Zm (by rw[hf]; decide),Zm (by rw[hp]; decide),Zm (by rw[hp2]; decide),hfd];obtain⟨h1,h2⟩:=hs.numb;rw[h1];exact⟨h2,by simp only[Ex.er,Ex.erL]⟩
def cmm:List (List TK)->List TK
 |[]=>[]
 |x::r=>.sg [44]::(x++cmm r)
inductive Qgt (c:Cx) (d:Nat) (F:Rd->Ex×Rd) (sa:List TK->Prop):List (List TK)->List Ex->Prop
 |nil:Qgt c d F sa [] []
 |cons {x:List TK} {e:Ex} {xs:List (List TK)} {es:List Ex}:Red c d F x e sa->Qgt c d F sa xs es->Qgt c d F sa (x::xs) (e::es)
theorem Qzf {xs:List (List TK)} {es:List Ex} (hr:Qgt c d orP sa xs es) (h1:∀ L,sa (.sg [41]::L)) (h2:∀ L,sa (.sg [44]::L)) :
 ∀ (acc:List Ex) (r:Rd) (L:List TK),Sta c d r (cmm xs++.sg [41]::L) ->
  ∃ l,(QU c orP xs.length acc r).1=some (acc++l)/\Sta c d (QU c orP xs.length acc r).2 (.sg [41]::L)/\Ex.erL l=Ex.erL es:=by
 induction hr with
 |nil=>intro acc r L h; exact⟨[],by simp[QU],h,rfl⟩
 |@cons x e xs es hx hxs ih =>
  intro acc r L h;obtain⟨ht1,ht⟩:=Sta.take (k:=.sg [44]) (s:=[44]) (L:=x++(cmm xs++.sg [41]::L)) (by simpa[cmm]using h) rfl;rw[Vh,QU,Zm (λh=>h ht.e)];have hnx:sa (cmm xs++.sg [41]::L):=by
   cases xs with
   |nil=>exact h1 _
   |cons y ys=>exact h2 _
  obtain⟨hg,he⟩:=hx _ _ ht hnx;obtain⟨l,g1,g2,g3⟩:=ih (acc++[(orP (Qh c [44] r).2).1]) _ L hg;refine⟨(orP (Qh c [44] r).2).1::l,?_,g2,?_⟩
  . rw[g1]; simp
  . simp only[Ex.erL,g3];rw[he]
theorem Red.call {w:ZE} {op:Int} {x:List TK} {xs:List (List TK)} {es:List Ex} (hw:(w,op,xs.length)∈QaT) (ha:Red c d orP x a sa)
 (hr:Qgt c d orP sa xs es) (h1:∀ L,sa (.sg [41]::L)) (h2:∀ L,sa (.sg [44]::L)) :
 Red c (d+1) (QL c orP facP) (.wd w::.sg [40]::(x++cmm xs++[.sg [41]])) (.mk op 0 [] (a::es) 0) (λ_=>True):=by
 intro r L h _;have h:Sta c (d+1) r (.wd w::.sg [40]::(x++(cmm xs++.sg [41]::L))):=by simpa using h
 have hwr:w∈QaU/\w≠[45]/\w≠[40]/\QaT.find? (λv=>decide (w=v.1))=some (w,op,xs.length):=by
  generalize xs.length=m at hw;simp only[QaT,Ve,VC,Zu,Prod.mk.injEq]at hw;rcases hw with ⟨rfl,rfl,rfl⟩|⟨rfl,rfl,rfl⟩|⟨rfl,rfl,rfl⟩<;>decide
 obtain⟨k1,k2,k3,k4⟩:=hwr;have hfd:QaT.find? (λv=>Qd c v.1 r)=some (w,op,xs.length):=by
  have e:(λv:ZE×Int×Nat=>Qd c v.1 r)=λv=>decide (w=v.1):=by funext v; rw[h.peek]; rfl
  rw[e]; exact k4
 unfold QL;rw[Zm (λh2=>h2 h.e),Zm (by rw[h.free]; simpa[Qen]using k1),h.peek,h.peek,Zm (by simp[pk,k2]),Zm (by simp[pk,k3]),hfd];simp only;unfold QdC;simp only;have ht:=(h.take (s:=w) (by simp[pk])).2;have ho:=Qlb (s:=[40]) ht rfl;rw[Zm (λh=>h ho.e)];generalize (QB c [40] (Qh c w r).2).2=r2 at ho ⊢;have hnx:sa (cmm xs++.sg [41]::L):=by
  cases xs with
  |nil=>exact h1 _
  |cons y ys=>exact h2 _
 obtain⟨hg,he⟩:=ha r2 _ ho hnx;obtain⟨l,g1,g2,g3⟩:=Qzf hr h1 h2 [(orP r2).1] _ L hg;split
 . rename_i r3 hq; rw[hq]at g1; cases g1
 . rename_i l' r3 hq;rw[hq]at g1 g2;obtain rfl:=Option.some.inj g1;refine⟨dnS (g2.take rfl).2 h.d,?_⟩;simp only[Ex.er,Vv,Vx,Ex.erL,he,g3]
def q1 (c:Cx) (d:Nat):Rd->Ex×Rd:=Q7 c Qa6 (lv c d).fac
def q2 (c:Cx) (d:Nat):Rd->Ex×Rd:=Q7 c Qbe (q1 c d)
def q3 (c:Cx) (d:Nat):Rd->Ex×Rd:=QaP c (q2 c d)
def q5 (c:Cx) (d:Nat):Rd->Ex×Rd:=Q7 c QbM (lv c d).nt
theorem ntq (d:Nat):∃ N,(lv c d).nt=QaS c (q3 c d) N:=by
 cases d with
 |zero=>exact⟨_,rfl⟩
 |succ d=>exact⟨_,rfl⟩
def Qe7 (L:List TK):Prop:=Qb2 Qa6 L/\Qb2 Qbe L/\Qb2 QaV L/\Qb2 QbM L/\Qb2 orO L
theorem noq {ops:List (ZE×Int)} {k:TK} {s:ZE} (hk:k=.sg s\/k=.wd s) (h:(ops.all λo=>decide (s≠o.1))=true) (L:List TK):Qb2 ops (k::L):=by
 intro o ho;have h2:=Vm.1 h o ho;simp only[ne_eq,decide_not,VI,ZB]at h2;rcases hk with rfl|rfl<;>simp[pk,h2]
theorem QcT {s:ZE} (h:([Qa6,Qbe,QaV,QbM,orO].all λl=>l.all λo=>decide (s≠o.1))=true) {k:TK} (hk:k=.sg s\/k=.wd s) (L:List TK):Qe7 (k::L):=by
 have h2:=Vm.1 h;exact⟨noq hk (h2 Qa6 (by simp)) L,noq hk (h2 Qbe (by simp)) L,noq hk (h2 QaV (by simp)) L,noq hk (h2 QbM (by simp)) L,noq hk (h2 orO (by simp)) L⟩
abbrev s1 (L:List TK):Prop:=True/\Qb2 Qa6 L
abbrev s2 (L:List TK):Prop:=s1 L/\Qb2 Qbe L
abbrev s3 (L:List TK):Prop:=s2 L/\Qb2 QaV L
theorem rq1 (h:Red c d (lv c d).fac l e (λ_=>True)):Red c d (q1 c d) l e s1:=h.pass
theorem rq2 (h:Red c d (q1 c d) l e s1):Red c d (q2 c d) l e s2:=h.pass
theorem rq3 (h:Red c d (q2 c d) l e s2):Red c d (q3 c d) l e s3:=h.cpass
theorem rq4 {st:List TK->Prop} (h:Red c d (q3 c d) l e st) (hn:∀ L,pk (l++L) [110,111,116]=false):Red c d (lv c d).nt l e st:=by
 obtain⟨N,hN⟩:=ntq (c:=c) d;rw[hN]; exact h.npass hn
theorem rq6 {st:List TK->Prop} (h:Red c d (lv c d).nt l e st):Red c d (Qcd c (lv c d)) l e (λL=>(st L/\Qb2 QbM L)/\Qb2 orO L):=h.pass.pass
def Whole (c:Cx) (d:Nat) (l:List TK) (e:Ex):Prop:=Red c d (Qcd c (lv c d)) l e Qe7
theorem wh3 {st:List TK->Prop} (h:Red c d (q3 c d) l e st) (hs:∀ L,Qe7 L->st L) (hn:∀ L,pk (l++L) [110,111,116]=false):Whole c d l e :=
 (rq6 (rq4 h hn)).mono λL hL=>⟨⟨hs L hL,hL.2.2.2.1⟩,hL.2.2.2.2⟩
theorem wh2 (h:Red c d (q2 c d) l e s2) (hn:∀ L,pk (l++L) [110,111,116]=false):Whole c d l e:=wh3 (rq3 h) (λ_ hL=>⟨⟨⟨Zo,hL.1⟩,hL.2.1⟩,hL.2.2.1⟩) hn
theorem wh0 (h:Red c d (lv c d).fac l e (λ_=>True)) (hn:∀ L,pk (l++L) [110,111,116]=false):Whole c d l e:=wh2 (rq2 (rq1 h)) hn
theorem QxP {w:ZE} (hw:w∉QaU):Red c d (lv c d).fac [.wd w] (.mk 2 0 w [] 0) (λ_=>True):=by
 cases d with
 |zero=>exact Red.name hw
 |succ d=>exact Red.name hw
theorem Qdb {n:Nat}:Red c d (lv c d).fac [.nm n] (.mk 1 n [] [] 0) (λ_=>True):=by
 cases d with
 |zero=>exact Red.num
 |succ d=>exact Red.num
end
def Qgb:ZE:=[109,97,120]
def QnD:ZE:=[109,105,110]
def wIf:ZE:=[105,102]
def QjH:ZE:=[110,111,116]
def Qki:ZE:=[97,110,100]
def wOr:ZE:=[111,114]
abbrev pw (s:ZE):Pc:=.t (.wd s)
abbrev ps (s:ZE):Pc:=.t (.sg s)
abbrev pnU (n:Nat):Pc:=.t (.nm n)
abbrev pb:Pc:=.b 32
def Qck (g:GX):List Pc :=
 if g.k=0 then [pw (vN g.x),pb,ps [43],pb,pw (vN g.y)]
 else if g.k=1 then [pw (vN g.x),pb,ps [45],pb,pnU 2,pb,ps [42],pb,pw (vN g.y)]
 else if g.k=2 then [pw Qgb,ps [40],pw (vN g.x),ps [44],pb,pw (vN g.y),ps [41]]
 else if g.k=3 then [pw wIf,ps [40],pw (vN g.x),pb,ps [60],pb,pw (vN g.y),ps [44],pb,pnU 1,ps [44],pb,ps [45],pnU 1,ps [41]]
 else if g.k=4 then [pw QnD,ps [40],pw (vN g.x),ps [44],pb,pnU 3,ps [41],pb,ps [43],pb,pnU 1]
 else if g.k=5 then [ps [45],pw (vN g.x)]
 else if g.k=6 then [ps [40],pw (vN g.x),pb,ps [43],pb,pnU 7,ps [41],pb,ps [37],pb,pnU 3]
 else [pw (vN g.x)]
def Qbb (g:GX):List Pc :=
 if g.k=0 then [pw (vN g.x),pb,ps [60],pb,pnU 1]
 else if g.k=1 then [pw (vN g.x),pb,ps [62,61],pb,pw (vN g.y),pb,pw Qki,pb,pw QjH,pb,pw (vN g.y),pb,ps [61,61],pb,pnU 2]
 else if g.k=2 then [pw (vN g.x),pb,ps [33,61],pb,pnU 0,pb,pw wOr,pb,pw (vN g.y),pb,ps [62],pb,pnU 1]
 else [pw QjH,pb,pw (vN g.x),pb,ps [60,61],pb,pnU 0]
theorem Qrs (g:GX):txt (Qck g)=exB g:=by
 unfold Qck exB exT;repeat' split
 all_goals rfl
theorem QsT (g:GX):txt (Qbb g)=cdB g:=by
 unfold Qbb cdB cdT;repeat' split
 all_goals rfl
abbrev eNm (x:Nat):Ex:=.mk 2 0 (vN x) [] 0
abbrev eIn (n:Nat):Ex:=.mk 1 n [] [] 0
abbrev eOp (op:Int) (l:List Ex):Ex:=.mk op 0 [] l 0
def exE (g:GX):Ex :=
 if g.k=0 then eOp 8 [eNm g.x,eNm g.y]
 else if g.k=1 then eOp 9 [eNm g.x,eOp 5 [eIn 2,eNm g.y]]
 else if g.k=2 then eOp 19 [eNm g.x,eNm g.y]
 else if g.k=3 then eOp 20 [eOp 12 [eNm g.x,eNm g.y],eIn 1,eOp 3 [eIn 1]]
 else if g.k=4 then eOp 8 [eOp 18 [eNm g.x,eIn 3],eIn 1]
 else if g.k=5 then eOp 3 [eNm g.x]
 else if g.k=6 then eOp 7 [eOp 8 [eNm g.x,eIn 7],eIn 3]
 else eNm g.x
def cdE (g:GX):Ex :=
 if g.k=0 then eOp 12 [eNm g.x,eIn 1]
 else if g.k=1 then eOp 16 [eOp 15 [eNm g.x,eNm g.y],eOp 4 [eOp 10 [eNm g.y,eIn 2]]]
 else if g.k=2 then eOp 17 [eOp 11 [eNm g.x,eIn 0],eOp 14 [eNm g.y,eIn 1]]
 else eOp 4 [eOp 13 [eNm g.x,eIn 0]]
theorem QA2:∀ w∈QaU,∀ x,w≠vN x:=by
 intro w hw x;have h1:w.headD 0=118->w.length=2->False:=by
  have:∀ w∈QaU,¬ (w.headD 0=118/\w.length=2):=by decide
  exact λa b=>this w hw ⟨a,b⟩
 intro e;subst e;exact h1 rfl rfl
theorem QhX (x:Nat):vN x∉QaU:=λh=>QA2 _ h x rfl
section
variable {c:Cx} {d:Nat}
theorem nm1 (x:Nat):Red c d (lv c d).fac [.wd (vN x)] (eNm x) (λ_=>True):=QxP (QhX x)
theorem QdK (x:Nat) (L:List TK):pk (.wd (vN x)::L) [110,111,116]=false:=by
 have:vN x≠[110,111,116]:=λe=>QhX x (by rw[e]; decide);simp[pk,this]
theorem Qiv (x:Nat):Whole c d [.wd (vN x)] (eNm x):=wh0 (nm1 x) (QdK x)
theorem Qe6 (n:Nat):Whole c d [.nm n] (eIn n):=wh0 Qdb λ_=>rfl
theorem Qgj (s:ZE) (op:Int) {la lb:List TK} {a b:Ex} (ha:Red c d (q1 c d) la a s1) (hb:Red c d (q1 c d) lb b s1) (hf:(Qbe.find? λo=>decide (s=o.1)).map (·.2)=some op) (hm:(Qa6.all λo=>decide (s≠o.1))=true) (hn:∀ L,pk (la++L) [110,111,116]=false):Whole c d (la++.sg s::lb) (.mk op 0 [] [a,b] 0) :=
 wh2 (Red.op ha hb (.inl rfl) hf λL=>⟨Zo,noq (.inl rfl) hm L⟩) λL=>by rw[Vz]; exact hn _
theorem QgJ {w:ZE} {op:Int} {x:List TK} {a:Ex} {xs:List (List TK)} {es:List Ex} (hw:(w,op,xs.length)∈QaT) (ha:Whole c d x a) (hr:Qgt c d (Qcd c (lv c d)) Qe7 xs es) :
 Red c (d+1) (lv c (d+1)).fac (.wd w::.sg [40]::(x++cmm xs++[.sg [41]])) (.mk op 0 [] (a::es) 0) (λ_=>True) :=
 Red.call hw ha hr (λL=>QcT (s:=[41]) (by decide) (.inl rfl) L) (λL=>QcT (s:=[44]) (by decide) (.inl rfl) L)
theorem Qgs (s:ZE) (op:Int) {la lb:List TK} {a b:Ex} (ha:Red c d (lv c d).fac la a (λ_=>True)) (hb:Red c d (lv c d).fac lb b (λ_=>True)) (hf:(QaV.find? λo=>decide (s=o.1)).map (·.2)=some op) (hm:(Qa6.all λo=>decide (s≠o.1))=true) (hs:(Qbe.all λo=>decide (s≠o.1))=true) :
 Red c d (q3 c d) (la++.sg s::lb) (.mk op 0 [] [a,b] 0) s2 :=
 Red.cop (rq2 (rq1 ha)) (rq2 (rq1 hb)) (.inl rfl) hf λL=>⟨⟨Zo,noq (.inl rfl) hm L⟩,noq (.inl rfl) hs L⟩
theorem Qla {L:List TK} (h:Qe7 L):s2 L:=⟨⟨Zo,h.1⟩,h.2.1⟩
theorem Ql5 (s:ZE) (op:Int) {la lb:List TK} {a b:Ex} (ha:Red c d (lv c d).fac la a (λ_=>True)) (hb:Red c d (lv c d).fac lb b (λ_=>True)) (hf:(QaV.find? λo=>decide (s=o.1)).map (·.2)=some op) (hm:(Qa6.all λo=>decide (s≠o.1))=true) (hs:(Qbe.all λo=>decide (s≠o.1))=true) (hn:∀ L,pk (la++L) [110,111,116]=false) :
 Whole c d (la++.sg s::lb) (.mk op 0 [] [a,b] 0) :=
 wh3 (Qgs s op ha hb hf hm hs) (λ_=>Qla) λL=>by rw[Vz]; exact hn _
theorem QlC (g:GX):Whole c 40 (tks (Qck g)) (exE g):=by
 unfold Qck exE;by_cases k0:g.k=0
 . rw[Zn k0,Zn k0];exact Qgj [43] 8 (la:=[.wd (vN g.x)]) (rq1 (nm1 _)) (rq1 (nm1 _)) (by decide) (by decide) (QdK _)
 rw[Zm k0,Zm k0];by_cases k1:g.k=1
 . rw[Zn k1,Zn k1];refine Qgj [45] 9 (la:=[.wd (vN g.x)]) (lb:=[.nm 2]++.sg [42]::[.wd (vN g.y)]) (rq1 (nm1 _)) ?_ (by decide) (by decide) (QdK _);exact Red.op (s:=[42]) (Qdb (n:=2)) (nm1 g.y) (.inl rfl) (by decide) λ_=>Zo
 rw[Zm k1,Zm k1];by_cases k2:g.k=2
 . rw[Zn k2,Zn k2];exact wh0 (QgJ (d:=39) (w:=Qgb) (x:=[.wd (vN g.x)]) (xs:=[[.wd (vN g.y)]]) (show(Qgb,(19:Int),1)∈QaT by decide) (Qiv _) (.cons (Qiv _) .nil)) λ_=>rfl
 rw[Zm k2,Zm k2];by_cases k3:g.k=3
 . rw[Zn k3,Zn k3];refine wh0 (QgJ (d:=39) (w:=wIf) (x:=[.wd (vN g.x)]++.sg [60]::[.wd (vN g.y)]) (xs:=[[.nm 1],.sg [45]::[.nm 1]]) (show(wIf,(20:Int),2)∈QaT by decide) (Ql5 [60] 12 (nm1 _) (nm1 _) (by decide) (by decide) (by decide) λL=>QdK _ _) (.cons (Qe6 1) (.cons ?_ .nil))) λ_=>rfl;exact wh0 (Red.neg (d:=38) (Qdb (n:=1))) λ_=>rfl
 rw[Zm k3,Zm k3];by_cases k4:g.k=4
 . rw[Zn k4,Zn k4];exact Qgj [43] 8 (la:=.wd QnD::.sg [40]::([.wd (vN g.x)]++cmm [[.nm 3]]++[.sg [41]])) (rq1 (QgJ (op:=18) (d:=39) (show(QnD,(18:Int),1)∈QaT by decide) (Qiv _) (.cons (Qe6 3) .nil))) (rq1 (Qdb (n:=1))) (by decide) (by decide) (λ_=>rfl)
 rw[Zm k4,Zm k4];by_cases k5:g.k=5
 . rw[Zn k5,Zn k5];exact wh0 (Red.neg (d:=39) (nm1 g.x)) λ_=>rfl
 rw[Zm k5,Zm k5];by_cases k6:g.k=6
 . rw[Zn k6,Zn k6];have h1:Red c 40 (lv c 40).fac (.sg [40]::(([.wd (vN g.x)]++.sg [43]::[.nm 7])++[.sg [41]])) (eOp 8 [eNm g.x,eIn 7]) (λ_=>True) :=
    Red.par (d:=39) (Qgj [43] 8 (la:=[.wd (vN g.x)]) (rq1 (nm1 _)) (rq1 (Qdb (n:=7))) (by decide) (by decide) (QdK _)) λL=>QcT (s:=[41]) (by decide) (.inl rfl) L
   exact wh2 (rq2 (Red.op (s:=[37]) h1 (Qdb (n:=3)) (.inl rfl) (by decide) λ_=>Zo)) λ_=>rfl
 rw[Zm k6,Zm k6];exact Qiv _
theorem Qsr (g:GX):Whole c (d+1) (tks (Qbb g)) (cdE g):=by
 unfold Qbb cdE;by_cases k0:g.k=0
 . rw[Zn k0,Zn k0];exact Ql5 [60] 12 (la:=[.wd (vN g.x)]) (nm1 _) (Qdb (n:=1)) (by decide) (by decide) (by decide) (QdK _)
 rw[Zm k0,Zm k0];by_cases k1:g.k=1
 . rw[Zn k1,Zn k1];have a1:=rq4 (Qgs (c:=c) (d:=d+1) [62,61] 15 (la:=[.wd (vN g.x)]) (nm1 _) (nm1 g.y) (by decide) (by decide) (by decide)) λL=>QdK _ _;have a2:=rq4 (Qgs (c:=c) (d:=d) [61,61] 10 (la:=[.wd (vN g.y)]) (nm1 _) (Qdb (n:=2)) (by decide) (by decide) (by decide)) λL=>QdK _ _;have a3:Red c (d+1) (lv c (d+1)).nt (.wd QjH::([.wd (vN g.y)]++.sg [61,61]::[.nm 2])) (eOp 4 [eOp 10 [eNm g.y,eIn 2]]) s2:=Red.nop a2;exact((Red.op (ops:=QbM) (s:=Qki) a1 a3 (.inr rfl) (by decide) λL=>⟨⟨Zo,noq (s:=Qki) (.inr rfl) (by decide) L⟩,noq (s:=Qki) (.inr rfl) (by decide) L⟩).pass (ops:=orO)).mono λL hL=>⟨⟨Qla hL,hL.2.2.2.1⟩,hL.2.2.2.2⟩
 rw[Zm k1,Zm k1];by_cases k2:g.k=2
 . rw[Zn k2,Zn k2];have a1:=(rq4 (Qgs (c:=c) (d:=d+1) [33,61] 11 (la:=[.wd (vN g.x)]) (nm1 _) (Qdb (n:=0)) (by decide) (by decide) (by decide)) λL=>QdK _ _).pass (ops:=QbM);have a2:=(rq4 (Qgs (c:=c) (d:=d+1) [62] 14 (la:=[.wd (vN g.y)]) (nm1 _) (Qdb (n:=1)) (by decide) (by decide) (by decide)) λL=>QdK _ _).pass (ops:=QbM);exact(Red.op (ops:=orO) (s:=wOr) a1 a2 (.inr rfl) (by decide) λL=>⟨⟨⟨Zo,noq (s:=wOr) (.inr rfl) (by decide) L⟩,noq (s:=wOr) (.inr rfl) (by decide) L⟩,noq (s:=wOr) (.inr rfl) (by decide) L⟩).mono λL hL=>⟨⟨Qla hL,hL.2.2.2.1⟩,hL.2.2.2.2⟩
 rw[Zm k2,Zm k2];have a2:=rq4 (Qgs (c:=c) (d:=d) [60,61] 13 (la:=[.wd (vN g.x)]) (nm1 _) (Qdb (n:=0)) (by decide) (by decide) (by decide)) λL=>QdK _ _;have a3:Red c (d+1) (lv c (d+1)).nt (.wd QjH::([.wd (vN g.x)]++.sg [60,61]::[.nm 0])) (eOp 4 [eOp 13 [eNm g.x,eIn 0]]) s2:=Red.nop a2;exact(rq6 a3).mono λL hL=>⟨⟨Qla hL,hL.2.2.2.1⟩,hL.2.2.2.2⟩
end
structure GA where
 wh:Option GX
 hid:Bool
 sets:List (Nat×GX)
 go:Option Nat
inductive GS where
 |deal (x r w s p:Nat)
 |turn (who:Option GX) (p:Nat) (acts:List GA)
structure GR where
 pl:Nat
 v:Nat
 nm:Nat
 ini:List Nat
 stages:List GS
 pays:List GX
section
variable (l:List Int)
def Qbt (v:Nat):Nat->Nat->List (Nat×GX)×Nat
 |0,a=>([],a)
 |m+1,a=>(((nxD l a v).1,(gx l v 8 (nxD l a v).2).1)::(Qbt v m (gx l v 8 (nxD l a v).2).2).1,(Qbt v m (gx l v 8 (nxD l a v).2).2).2)
def whC (v k a:Nat):Option GX×Nat :=
 if k=0 then(none,a)else if(nxD l a 3).1=0 then(some (gx l v 4 (nxD l a 3).2).1,(gx l v 4 (nxD l a 3).2).2)else(none,(nxD l a 3).2)
def goC (i n a:Nat):Option Nat×Nat :=
 if(nxD l a 3).1=0 then(some (i+1+(nxD l (nxD l a 3).2 (n-i)).1),(nxD l (nxD l a 3).2 (n-i)).2)else(none,(nxD l a 3).2)
def QbO (v i n k a:Nat):GA×Nat :=
 let w:=whC l v k a
 let h:=nxD l w.2 3
 let m:=nxD l h.2 3
 let s:=Qbt l v m.1 m.2
 let g:=goC l i n s.2
 (⟨w.1,decide (h.1=0),s.1,g.1⟩,g.2)
def Qb5 (v i n:Nat):Nat->Nat->Nat->List GA×Nat
 |0,_,a=>([],a)
 |m+1,k,a=>((QbO l v i n k a).1::(Qb5 v i n m (k+1) (QbO l v i n k a).2).1,(Qb5 v i n m (k+1) (QbO l v i n k a).2).2)
def QcV (pl v a:Nat):(Option GX×Nat)×Nat :=
 if(nxD l a 4).1=0 then((some (gx l v 4 (nxD l a 4).2).1,pl-1),(gx l v 4 (nxD l a 4).2).2)else((none,(nxD l (nxD l a 4).2 pl).1),(nxD l (nxD l a 4).2 pl).2)
def Qdc (pl v i n a:Nat):GS×Nat :=
 let w:=QcV l pl v a
 let m:=nxD l w.2 3
 let s:=Qb5 l v i n (1+m.1) 0 m.2
 (.turn w.1.1 w.1.2 s.1,s.2)
def Qfm (pl a:Nat):(Nat×Nat)×Nat:=if(nxD l a 3).1=1 then((1,(nxD l (nxD l a 3).2 pl).1),(nxD l (nxD l a 3).2 pl).2)else(((nxD l a 3).1,0),(nxD l a 3).2)
def Qee (pl v a:Nat):GS×Nat :=
 let x:=nxD l a v
 let r:=nxD l x.2 4
 let w:=nxD l r.2 4
 let s:=Qfm l pl w.2
 (.deal x.1 r.1 w.1 s.1.1 s.1.2,s.2)
def stC (pl v i n a:Nat):GS×Nat:=if(nxD l a 3).1=0 then Qee l pl v (nxD l a 3).2 else Qdc l pl v i n (nxD l a 3).2
def QbJ (pl v n:Nat):Nat->Nat->Nat->List GS×Nat
 |0,_,a=>([],a)
 |m+1,i,a=>((stC l pl v i n a).1::(QbJ pl v n m (i+1) (stC l pl v i n a).2).1,(QbJ pl v n m (i+1) (stC l pl v i n a).2).2)
def Qb9 (v:Nat):Nat->Nat->List GX×Nat
 |0,a=>([],a)
 |m+1,a=>((gx l v 8 a).1::(Qb9 v m (gx l v 8 a).2).1,(Qb9 v m (gx l v 8 a).2).2)
def QbC:Nat->Nat->List Nat×Nat
 |0,a=>([],a)
 |m+1,a=>((nxD l a 4).1::(QbC m (nxD l a 4).2).1,(QbC m (nxD l a 4).2).2)
def QbG:GR :=
 let p:=nxD l 0 3
 let v:=nxD l p.2 3
 let n:=nxD l v.2 4
 let m:=nxD l n.2 9
 let i:=QbC l (1+v.1) m.2
 let s:=QbJ l (1+p.1) (1+v.1) (1+n.1) (1+n.1) 0 i.2
 let y:=Qb9 l (1+v.1) (1+p.1) s.2
 ⟨1+p.1,1+v.1,m.1,i.1,s.1,y.1⟩
variable {l}
theorem Qm7 {v:Nat}:∀ {m a:Nat},a<=l.length->(Qbt l v m a).2<=l.length
 |0,_,h=>h
 |m+1,_,h=>Qm7 (m:=m) (QfF (QS h))
theorem QzN {v k a:Nat} (h:a<=l.length):(whC l v k a).2<=l.length:=by
 unfold whC;repeat' split
 . exact h
 . exact QfF (QS h)
 . exact QS h
theorem QBa {i n a:Nat} (h:a<=l.length):(goC l i n a).2<=l.length:=by
 unfold goC;split
 . exact QS (QS h)
 . exact QS h
theorem QpD {v i n k a:Nat} (h:a<=l.length):(QbO l v i n k a).2<=l.length:=QBa (Qm7 (QS (QS (QzN h))))
theorem QnZ {v i n:Nat}:∀ {m k a:Nat},a<=l.length->(Qb5 l v i n m k a).2<=l.length
 |0,_,_,h=>h
 |m+1,_,_,h=>QnZ (m:=m) (QpD h)
theorem QuN {pl v a:Nat} (h:a<=l.length):(QcV l pl v a).2<=l.length:=by
 unfold QcV;split
 . exact QfF (QS h)
 . exact QS (QS h)
theorem QvR {pl v i n a:Nat} (h:a<=l.length):(Qdc l pl v i n a).2<=l.length:=QnZ (QS (QuN h))
theorem Qzb {pl a:Nat} (h:a<=l.length):(Qfm l pl a).2<=l.length:=by
 unfold Qfm;split
 . exact QS (QS h)
 . exact QS h
theorem Qv6 {pl v a:Nat} (h:a<=l.length):(Qee l pl v a).2<=l.length:=Qzb (QS (QS (QS h)))
theorem Qpg {pl v i n a:Nat} (h:a<=l.length):(stC l pl v i n a).2<=l.length:=by
 unfold stC;split
 . exact Qv6 (QS h)
 . exact QvR (QS h)
theorem QqC {pl v n:Nat}:∀ {m i a:Nat},a<=l.length->(QbJ l pl v n m i a).2<=l.length
 |0,_,_,h=>h
 |m+1,_,_,h=>QqC (m:=m) (Qpg h)
theorem Qsk:∀ {m a:Nat},a<=l.length->(QbC l m a).2<=l.length
 |0,_,h=>h
 |m+1,_,h=>Qsk (m:=m) (QS h)
theorem Qis {v:Nat}:∀ {m a:Nat},(Qbt l v m a).1.length=m
 |0,_=>rfl
 |m+1,_=>Zp (· + 1) (Qis (m:=m))
theorem Qhk {v i n:Nat}:∀ {m k a:Nat},(Qb5 l v i n m k a).1.length=m
 |0,_,_=>rfl
 |m+1,_,_=>Zp (· + 1) (Qhk (m:=m))
end
def Qfe (s:Nat×GX):ZE:=[32]++vN s.1++[32,61,32]++exB s.2++[59]
def QdN (l:List (Nat×GX)):ZE:=l.flatMap Qfe
def whB (w:Option GX):ZE:=match w with
 |none=>[]
 |some g=>[32,119,104,101,110,32]++cdB g
def Qgh (b:Bool):ZE:=if b=true then [32,104,105,100,100,101,110]else []
def goB (g:Option Nat):ZE:=match g with
 |none=>[]
 |some t=>[32,103,111,116,111,32,115]++dg t++[59]
def aN (k:Nat):ZE:=[UInt8.ofNat (97+k)]
def QeX (k:Nat) (g:GA):ZE:=[32,32,97,99,116,105,111,110,32]++aN k++whB g.wh++Qgh g.hid++[32,123]++QdN g.sets++[32,125]++goB g.go++[10]
def Qet:Nat->List GA->ZE
 |_,[]=>[]
 |k,g::r=>QeX k g++Qet (k+1) r
def Qd9 (w:Option GX) (p:Nat):ZE:=match w with
 |none=>dg p
 |some g=>[105,102,40]++cdB g++[44,32,48,44,32]++dg p++[41]
def Qi5 (w:Option GX) (p:Nat) (acts:List GA):ZE:=[116,117,114,110,32]++Qd9 w p++[32,123,10]++Qet 0 acts++[125,10]
def Qef:ZD:=[[48,32,46,46,32,49],[49,32,46,46,32,50],[48,32,46,46,32,50],[51,32,46,46,32,51]]
def wgB (w:Nat) (x:ZE):ZE :=
 if w=0 then [32,119,101,105,103,104,116,32,49,32,43,32]++x
 else if w=1 then [32,119,101,105,103,104,116,32,105,102,40]++x++[32,61,61,32,49,44,32,50,44,32,49,41]
 else if w=2 then [32,119,101,105,103,104,116,32,109,97,120,40]++x++[44,32,48,41,32,43,32,105,102,40]++x++[32,61,61,32,50,44,32,48,44,32,49,41]
 else []
def Qfx (s p:Nat):ZE:=if s=0 then [32,115,101,101,110,32,98,121,32,97,108,108]else if s=1 then [32,115,101,101,110,32,98,121,32]++dg p else []
def Qh9 (x r w s p:Nat):ZE:=[100,101,97,108,32]++vN x++[32,105,110,32]++Qef.getD r []++wgB w (vN x)++Qfx s p++[59,10]
def stB:GS->ZE
 |.deal x r w s p=>Qh9 x r w s p
 |.turn w p acts=>Qi5 w p acts
def lbB (i:Nat):ZE:=[115]++dg i++[58,32]
def Qdn:Nat->List GS->ZE
 |_,[]=>[]
 |i,g::r=>lbB i++stB g++Qdn (i+1) r
def QeE:ZD:=[[48],[49],[45,49],[50]]
def Qdh:Nat->List Nat->ZE
 |_,[]=>[]
 |i,c::r=>[118,97,114,32,118]++dg i++[32,61,32]++QeE.getD c []++[59,10]++Qdh (i+1) r
def QdG:Bool->List GX->ZE
 |_,[]=>[]
 |b,g::r=>(if b then [44,32]else [])++exB g++QdG true r
def Qc1 (g:GR):ZE:=[103,97,109,101,32,103]++dg g.nm++[59,10,112,108,97,121,101,114,115,32]++dg g.pl++[59,10]++Qdh 0 g.ini++Qdn 0 g.stages++[115]++dg g.stages.length++[58,32,101,110,100,32,123,32,112,97,121,32]++QdG false g.pays++[59,32,125,10]
theorem Qn6 (s:Nat×GX):(Qfe s).length<=60:=by
 have:=Qma s.2;simp[Qfe,vN,dg]; omega
theorem QnA:∀ l:List (Nat×GX),(QdN l).length<=60*l.length
 |[]=>by simp[QdN]
 |s::r=>by
  have h1:=QnA r;have h2:=Qn6 s;unfold QdN at h1 ⊢;rw[VO,Vj,Vh]; omega
theorem Qpa (w:Option GX):(whB w).length<=60:=by
 cases w with
 |none=>simp[whB]
 |some g=>have:=Qhz g; simp[whB]; omega
theorem Qul (g:Option Nat):(goB g).length<=60:=by
 cases g with
 |none=>simp[goB]
 |some g=>simp[goB,dg]
theorem Qvx (b:Bool):(Qgh b).length<=60:=by cases b<;>simp[Qgh]
theorem Qsz (w:Option GX) (p:Nat):(Qd9 w p).length<=60:=by
 cases w with
 |none=>simp[Qd9,dg]
 |some g=>have:=Qhz g; simp[Qd9,dg]; omega
theorem QzG (w:Nat) (x:Nat):(wgB w (vN x)).length<=60:=by
 unfold wgB;repeat' split
 all_goals simp[vN,dg]
theorem Qwm (s p:Nat):(Qfx s p).length<=60:=by
 unfold Qfx;repeat' split
 all_goals simp[dg]
end Go.Proofs.YtmkdpmfhlfhjkaaGreatDoor
