/- Steps of the proof. -/
import Derived.Test.YtmkdpmfhlfhjkaaGreatDoorPart3
import Derived.Test.YtmkdpmfhlfhjkaaGreatDoorPWT
set_option linter.all false
namespace Go.Proofs.YtmkdpmfhlfhjkaaGreatDoor
open Go.Ab
section
variable {H:ZG} {c:Cx} {r:Rd} {j:Nat} {nm:ZE} {wh:List Ex} {hid:Bool} {sets:List Qp} {p:Int}
theorem Qoz {x y:AO} {o:AO} {go:ZE} {G:ZG} (hcl:closed (H.set j o)) :
 Cv H.length (.agg [st (B nm),exN wh,bl hid,.own (H.length+3) 0 sets.length 7 sets.length,st (B go),i64 p]) (H.set j o++(x::y::QaT H.length nm wh hid sets.length go p::Qby sets::G)) (Qe7 ⟨nm,wh,hid,sets,go,p⟩) (H.set j o):=by
 refine Cv.le (Qq (n0:=H.length) 4 hcl (by simp) rfl) ?_;have e:(rws Qp.c sets).take (sets.length*7)=rws Qp.c sets:=VB (by rw[Qa8 Qp.len]; exact Vb _);have h1:SV.fz H.length [] (x::y::QaT H.length nm wh hid sets.length go p::Qby sets::G) 3 (exN wh)=exN wh:=Qdh (QqC _ _);simp only[Qby]at h1;simp[Qn.c,Qe7,Qby,Qa8 Qp.len,e,h1];exact Qga (leL.cons (SV.le.refl _) (leL.cons (Qlz _) (leL.cons (SV.le.refl _) (leL.cons (SV.le.refl _) (leL.cons (SV.le.refl _) (leL.cons (SV.le.refl _) leL.nil))))))
theorem QvU (hp:Qd c [103,111,116,111] r=false):Qbj c r=([],r):=by unfold Qbj; rw[Zn (by simp[hp])]
theorem QxM (hp:Qd c [103,111,116,111] r=true):Qbj c r=QgY c (Qa r):=by unfold Qbj QgY; rw[Zo hp,QcX hp]
theorem QuZ (hn:Q4 c) (h20:c.ts.length<=20000) (hj:j<H.length) (hcl:closed H) (he:r.e=0) (ha:r.a<=c.ts.length) {G:ZG} {env:Env} {res:Qn×Rd}
 (hres:(⟨nm,wh,hid,sets,(Qbj c r).1,p⟩,(Qbj c r).2)=res) (h1:env.get 1=rp H.length) (h2:env.get 2=rp (H.length+1)) (h3:env.get 3=rp (H.length+2)) :
 X Tryz.prog Tryz.f182.ntmps Qf (IC.tl 8 Qap) env (H.set j (pdO c r)++(bxO j::aZ::QaT H.length nm wh hid sets.length [] p::Qby sets::G)) (FinP H.length Qhf (PdV c H j Qe7 res)):=by
 have hct:c.ts.length<4611686018427387904:=by omega
 have h202:=Qw8 (H:=H.set j (pdO c r)++(bxO j::aZ::QaT H.length nm wh hid sets.length [] p::Qby sets::G)) hn (F:=QgY c) (f:=.fn (.func 201) [] [rp H.length]) rfl rfl (by simp[rp,SV.under,SV.underL]) (s:=[103,111,116,111]) rfl (QbR hj (pdO c r) _) hct ha he
  (λhp=>by
   have hlt:=Qam hp;rw[QaP hj];refine QlM (a:=[]) (b:=[rp H.length]) (by
    have:=Qv5 (H:=H.set j (pdO c (Qa r))++(bxO j::aZ::QaT H.length nm wh hid sets.length [] p::Qby sets::G)) (q:=H.length) hn hct (by simp) (QbR hj (pdO c (Qa r)) _) he hlt;simpa using this))
 have hy:=QxM (c:=c) (r:=r);have hno:=QvU (c:=c) (r:=r);by_cases hp:Qd c [103,111,116,111] r=true
 . rw[Zo hp]at h202;rw[hy hp]at hres;generalize QgY c (Qa r)=g at h202 hres;simp[IC.tl,Qap,Qhf,h1,rp,bxO];refine Qaf (by simpa[rp,bxO]using h202) (λhe1 => ?_) (λhe1 H' hk => ?_)
   . rw[QaP hj];simp[wdN,wds];refine Qu hm Qi4.eq_1 ?_;simp[h2,h3,rp,QaT,aZ];refine Qu hm Qi4.eq_1 ?_;simp;refine⟨_,_,PdV.got (x:=⟨nm,wh,hid,sets,g.1,p⟩) he1 hres.symm rfl rfl,?_⟩;have hc1:closed (H.set j (pdO c g.2)):=QbQ (c:=c) (a:=g.2.a) (v:=g.2.v) hcl;have:=Qoz (nm:=nm) (wh:=wh) (hid:=hid) (sets:=sets) (p:=p) (go:=g.1) (x:=bxO j) (y:=⟨[st (B nm),exN wh,bl hid,.own (H.length+3) 0 sets.length 7 sets.length,st (B g.1),i64 p],89,0,true⟩) (G:=G) hc1;simpa[QaT,bxO,rp]using this
   . simp;have hb:res.2=g.2:=by rw[<-hres]
     rw[<-hb]at he1 ⊢;exact⟨_,_,PdV.pan he1 hk.of_set,Qj⟩
 . rw[Zn hp]at h202;rw[Vk]at hp;rw[hno hp]at hres;simp[IC.tl,Qap,Qhf,h1,rp,bxO];refine Qaf (by simpa[rp,bxO]using h202) (λhe1 => ?_) (λhe1 H' hk=>absurd he he1);rw[QaP hj];have n1:(SV.val (Value.slice none 0 0)).isSl=true:=rfl;have n2:(SV.val (Value.slice none 0 0)).slen=0:=rfl;simp[wdN,n1,n2];refine Qu hm Qi4.eq_1 ?_;simp[h2,h3,rp,QaT,aZ];refine⟨_,_,PdV.got (x:=⟨nm,wh,hid,sets,[],p⟩) he hres.symm rfl rfl,?_⟩;have hc1:closed (H.set j (pdO c r)):=QbQ (c:=c) (a:=r.a) (v:=r.v) hcl;have:=Qoz (nm:=nm) (wh:=wh) (hid:=hid) (sets:=sets) (p:=p) (go:=[]) (x:=bxO j) (y:=⟨[st (B nm),exN wh,bl hid,.own (H.length+3) 0 sets.length 7 sets.length,st (B []),i64 p],89,0,true⟩) (G:=G) hc1;simpa[QaT,bxO,rp]using this
theorem QzB (hn:Q4 c) (h20:c.ts.length<=20000) (hj:j<H.length) (hcl:closed H) {d:Nat} {F:Rd->Ex×Rd} (hF:PdC c 32 [] F d) (hkF:Kp c d F) (hst:Qt F) (hg:Gd c d r) (he:r.e=0) {G:ZG} {env:Env} {res:Qn×Rd}
 (hres:(λs:List Qp×Rd=>((⟨nm,wh,hid,s.1,(Qbj c (t2 c [125] s.2)).1,p⟩,(Qbj c (t2 c [125] s.2)).2):Qn×Rd)) (QaS c F (c.ts.length+1) [] (t2 c [123] r))=res) (h1:env.get 1=rp H.length) (h2:env.get 2=rp (H.length+1)) (h3:env.get 3=rp (H.length+2)) :
 X Tryz.prog Tryz.f182.ntmps Qf (IC.tl 6 Qap) env (H.set j (pdO c r)++(bxO j::aZ::QaT H.length nm wh hid 0 [] p::Qby []::G)) (FinP H.length Qhf (PdV c H j Qe7 res)):=by
 have hct:c.ts.length<4611686018427387904:=by omega
 have tail:∀ (sets:List Qp) (r:Rd) (G:ZG) (env:Env),r.e=0->r.a<=c.ts.length->(⟨nm,wh,hid,sets,(Qbj c r).1,p⟩,(Qbj c r).2)=res->env.get 1=rp H.length->env.get 2=rp (H.length+1)->env.get 3=rp (H.length+2)->_:=λsets r G env he ha hr h1 h2 h3=>QuZ (G:=G) hn h20 hj hcl he ha hr h1 h2 h3;rw[show IC.tl 6 Qap=.seq (IC.nth 6 Qap) (IC.tl 7 Qap)from rfl,show IC.tl 7 Qap=.seq (IC.nth 7 Qap) (IC.tl 8 Qap)from rfl];generalize IC.tl 8 Qap=t8 at tail ⊢;have hw:=Qd0 (H:=H) (j:=j) (r:=r) (L:=bxO j::aZ::QaT H.length nm wh hid 0 [] p::Qby []::(G++[⟨[st (B [123])],9,0,true⟩])) (q:=G.length+4) (n:=1) (T:=9) (ver:=0) (l:=[[123]]) hn hct hj (by simp[wds]) rfl (by simp) (by intro s hs; simp at hs; subst hs; rfl) he hg.a;have hg1:=(QN (c:=c) (d:=d) [123] hg).1;simp[IC.nth,Qap,h1,rp,bxO];refine Qaf (by simpa[rp,bxO,QaT]using hw) (λhe1 => ?_) (λhe1 H' hk => ?_)
 . rw[QaP hj];simp only[Qay]at he1 ⊢;generalize t2 c [123] r=r1 at hg1 he1 hres ⊢;simp;generalize hs:QaS c F (c.ts.length+1) [] r1=s at hres;refine LI.cong (H':=H.set j (pdO c r1)++(bxO j::aZ::QaT H.length nm wh hid ([]:List Qp).length [] p::Qby []::(G++[⟨[st (B [123])],9,0,true⟩]))) (by simp[bxO,rp]) ?_;refine Qwt hn h20 hj hF hkF hst (res:=s) (λenv G hs0 hp hgs h1 h2 h3 => ?_) (λhs0 env H' hk => ?_) (c.ts.length+1) [] r1 _ _ (by omega) (by simp) hs hg1 he1 ?_ ?_ ?_
   . simp;exact tail s.1 (Qa s.2) G env hs0 (Qam hp) (by rw[<-hres]; simp only[QcX hp]) h1 h2 h3
   . simp;have hb:res.2=s.2:=by
      rw[<-hres];simp only[Q9 _ hs0,Qfu _ hs0]
     rw[<-hb]at hs0 ⊢;exact⟨_,_,PdV.pan hs0 hk,Qj⟩
   all_goals simp[h1,h2,h3,rp]
 . simp;rw[Qay]at he1;have hb:res.2=t2 c [123] r:=by
    rw[<-hres,QeN he1];simp only[Q9 _ he1,Qfu _ he1]
   simp only[Qay];rw[<-hb]at he1 ⊢;exact⟨_,_,PdV.pan he1 hk.of_set,Qj⟩
theorem QAk (s:ZE):QaR c s r=(Qd c s r,Qae c s r):=by
 unfold QaR Qae;by_cases hp:Qd c s r=true
 . rw[Zo hp,Zo hp,QcX hp,hp]
 . rw[Zn hp,Zn hp]; rw[Vk]at hp; rw[hp]
theorem QwY (hn:Q4 c) (h20:c.ts.length<=20000) (hj:j<H.length) (hcl:closed H) {d:Nat} {F:Rd->Ex×Rd} (hF:PdC c 32 [] F d) (hkF:Kp c d F) (hst:Qt F) (hg:Gd c d r) (he:r.e=0) {env:Env} {res:Qn×Rd}
 (hres:QQ c F r=res) (h1:env.get 1=rp H.length) (h2:env.get 2=rp (H.length+1)) (h3:env.get 3=rp (H.length+2)) :
 X Tryz.prog Tryz.f182.ntmps Qf (IC.tl 2 Qap) env (H.set j (pdO c r)++(bxO j::aZ::QaT H.length [] [] false 0 [] (Qk c r)::Qby []::[])) (FinP H.length Qhf (PdV c H j Qe7 res)):=by
 have hct:c.ts.length<4611686018427387904:=by omega
 have tail:∀ (nm:ZE) (wh:List Ex) (hid:Bool) (r':Rd) (G:ZG) (env:Env),Gd c d r'->r'.e=0->_->env.get 1=rp H.length->env.get 2=rp (H.length+1)->env.get 3=rp (H.length+2)->_:=λnm wh hid r' G env hg he hr h1 h2 h3=>QzB (G:=G) (nm:=nm) (wh:=wh) (hid:=hid) (p:=Qk c r) (r:=r') (res:=res) hn h20 hj hcl hF hkF hst hg he hr h1 h2 h3;have bad:∀ rf:Rd,rf.e≠0->res.2=rf->∀ H',Qw H [j] H'->PdV c H j Qe7 res (.pan (Q0 rf.e rf.p)) H':=by
  intro rf hf hs H' hk;rw[<-hs]at hf ⊢;exact PdV.pan hf hk
 unfold QQ at hres;simp only[Qmt,QjO]at hres;rw[show IC.tl 2 Qap=.seq (IC.nth 2 Qap) (IC.tl 3 Qap)from rfl,show IC.tl 3 Qap=.seq (IC.nth 3 Qap) (IC.tl 4 Qap)from rfl,show IC.tl 4 Qap=.seq (IC.nth 4 Qap) (IC.tl 5 Qap)from rfl,show IC.tl 5 Qap=.seq (IC.nth 5 Qap) (IC.tl 6 Qap)from rfl];generalize IC.tl 6 Qap=t6 at tail ⊢;generalize Qk c r=pp at tail hres ⊢;have hw:=Qd0 (H:=H) (j:=j) (r:=r) (L:=bxO j::aZ::QaT H.length [] [] false 0 [] pp::Qby []::[⟨[st (B [97,99,116,105,111,110])],9,0,true⟩]) (q:=4) (n:=1) (T:=9) (ver:=0) (l:=[[97,99,116,105,111,110]]) hn hct hj (by simp[wds]) rfl (by simp) (by intro s hs; simp at hs; subst hs; rfl) he hg.a;have hg1:=(QN (c:=c) (d:=d) [97,99,116,105,111,110] hg).1;simp[IC.nth,Qap,h1,rp,bxO];refine Qaf (by simpa[rp,bxO,QaT]using hw) (λhe1 => ?_) (λhe1 H' hk => ?_)
 . rw[QaP hj];simp only[Qay]at he1 ⊢;generalize t2 c [97,99,116,105,111,110] r=r1 at hg1 he1 hres ⊢;have h88:=λL=>Qip (c:=c) (r:=r1) hj (by have:=hg1.a; omega) he1 L false;simp only[Qit]at h88;have hg2:=(Qcq (c:=c) (d:=d) r1 hg1).1;simp[h1,h3,rp,QaT];generalize QK c r1=w at hg2 h88 hres;refine Qaf (by simpa[rp]using h88 _) (λhe2 => ?_) (λhe2 H' hk => ?_)
   . rw[QaP hj];simp;have h181:=λL=>QpX hn hF (s:=[119,104,101,110]) rfl (QbR hj (pdO c w.2) L) hct hg2 he2;have hg3:=(QgM hkF [119,104,101,110] _ hg2).1;generalize QaQ c F [119,104,101,110] w.2=q3 at hg3 h181 hres;refine Qaf (by simpa[rp]using h181 _) (λhe3 => ?_) (λhe3 H' hk => ?_)
     . rw[QaP hj];simp[h1,h3,rp];have h90:=λL=>Qiu (c:=c) (r:=q3.2) hn hj (by have:=hg3.a; omega) he3 L (s:=[104,105,100,100,101,110]) rfl;have hg4:=(QiC [104,105,100,100,101,110] _ hg3).1;have he4:(Qae c [104,105,100,100,101,110] q3.2).e=0:=by unfold Qae; split<;>exact he3
       refine Qc (by simpa[rp]using h90 _) ?_;rw[QAk]at hg4 hres;simp[h1,h3,rp];refine Xc ?_ (tail w.1 q3.1 (Qd c [104,105,100,100,101,110] q3.2) (Qae c [104,105,100,100,101,110] q3.2) [⟨[st (B [97,99,116,105,111,110])],9,0,true⟩] _ hg4 he4 hres ?_ ?_ ?_)
       . simp[bxO,QaT,rp,Qby,rws]
       all_goals simp[h1,h2,h3,rp]
     . simp;refine⟨_,_,bad _ he3 ?_ _ hk.of_set,Qj⟩;rw[<-hres];simp only[QfS _ _ he3,Q9 _ he3,QeN he3,Qfu _ he3]
   . simp;refine⟨_,_,bad _ he2 ?_ _ hk.of_set,Qj⟩;rw[<-hres];simp only[QdU _ _ he2,QfS _ _ he2,Q9 _ he2,QeN he2,Qfu _ he2]
 . simp;rw[Qay]at he1;refine⟨_,_,bad _ he1 ?_ _ hk.of_set,Qj⟩;rw[<-hres];simp only[Qek _ he1,QdU _ _ he1,QfS _ _ he1,Q9 _ he1,QeN he1,Qfu _ he1]
theorem Qx2 (hn:Q4 c) (h20:c.ts.length<=20000) {d:Nat} {F:Rd->Ex×Rd} (hF:PdC c 32 [] F d) (hkF:Kp c d F) (hst:Qt F) (ho:H[j]? = some (pdO c r)) (hg:Gd c d r) (he:r.e=0):OkP Tryz.prog 182 [rp j] H (PdV c H j Qe7 (QQ c F r)):=by
 have hj:=Ql ho;have h91:=λL=>Qgb (H:=H++L) (c:=c) (r:=r) (j:=j) (by rw[Vc hj]; exact ho);refine Qqv hm Tryz.func182 c182 (by simp[rp]) λhcl => ?_;have tail:∀ env:Env,env.get 1=rp H.length->env.get 2=rp (H.length+1)->env.get 3=rp (H.length+2)->_:=λenv h1 h2 h3=>QwY (r:=r) (res:=QQ c F r) hn h20 hj hcl hF hkF hst hg he rfl h1 h2 h3;rw[show Qap=.seq (IC.nth 0 Qap) (.seq (IC.nth 1 Qap) (IC.tl 2 Qap))from rfl];generalize IC.tl 2 Qap=t2' at tail ⊢;refine WI.seq (Qb1 hm) ?_;simp[IC.nth,Qap,rp];refine WI.seq (Qb1 hm) ?_;simp;refine Qc (by simpa[rp]using h91 _) ?_;simp;refine⟨rfl,WI.tell (Qaw.own0 (j:=H.length+2) (p:=3) (o:=⟨[st (B []),nl,bl false,nl,st (B []),i64 (Qk c r)],89,0,true⟩) (by simp) rfl rfl 91 7) ?_⟩;refine WI.cong (H':=H.set j (pdO c r)++(bxO j::aZ::QaT H.length [] [] false 0 [] (Qk c r)::Qby []::[])) ?_ ?_
 . rw[QcZ ho];simp[aZ,QaT,Qby,rws,bxO,rp,exN]
 . exact WI.of_X (Qb1 hm) (tail _ (by simp[rp]) (by simp[rp]) (by simp[rp]))
end
section
variable {H:ZG} {c:Cx} {r:Rd} {j k:Nat} {lb:ZE} {p:Int} {F:Rd->Ex×Rd}
theorem QwV (hJ:J2 H j k) {p:AO} {L:ZG} {q n T ver:Nat} {l:ZD} (hL:L[q]? = some ⟨wds l,T,ver,true⟩) (hn':n=l.length) (hl:l.length<4611686018427387904) :
 Ok Tryz.prog 93 [rp j,.own (H.length+q) 0 n 1 ver] (w2 H j k (pdO c r) p++L) (.ret (bl (decide ((tkR c r).tx∈l)))) (w2 H j k (pdO c r) p++L):=by
 have:=IsS.own1 (H:=w2 H j k (pdO c r) p) hL hn';exact Qfa (QbD hJ L) (by simpa using this) hl
theorem QvG (hn:Q4 c) (hJ:J2 H j k) {p:AO} {L:ZG} {q:Nat} {s:ZE} (hs:QcW s=true) (he:r.e=0) (hL:L[q]? = some ⟨[st (B s)],9,0,true⟩) :
 Ok Tryz.prog 93 [rp j,.own (H.length+q) 0 1 1 0] (w2 H j k (pdO c r) p++L) (.ret (bl (Qd c s r))) (w2 H j k (pdO c r) p++L):=by
 have:=QwV (c:=c) (r:=r) hJ (p:=p) (L:=L) (q:=q) (n:=1) (T:=9) (ver:=0) (l:=[s]) hL rfl (by simp)
 rwa [QgL hn hs he]at this
def QfE (c:Cx) (F:Rd->Ex×Rd) (lb:ZE) (p:Int) (r:Rd):Qb×Rd :=
 let w:=F r
 let a:=QQ c F (t2 c [123] w.2)
 let l:=Qak c F 0 c.ts.length [a.1] a.2
 (⟨2,lb,[],0,0,[],false,[],[w.1],l.1,[],p⟩,t2 c [125] l.2)
theorem QB3 (r:Rd):QdA c F { QdE with lb:=lb } r=QfE c F lb (Qk c r) (t2 c [116,117,114,110] r):=by
 unfold QdA QfE;simp only[QdE,Qmt,QjO]
def tnC (lb:ZE) (n m:Nat) (p:Int):ZH:=[i64 2,st (B lb),st (B []),i64 0,i64 0,nl,bl false,nl,.own n 0 1 5 0,.own (n+2) 0 m 6 m,nl,i64 p]
def tnL (w:Ex) (l:List Qn) (G:ZG):ZG:=⟨w.c,25,0,true⟩::⟨[st (B [123])],9,0,true⟩::⟨rws Qn.c l,89,l.length,true⟩::G
def Qf6:IC:=match Qd3 with|.keep _ a=>a|a=>a
set_option maxHeartbeats 2000000 in
theorem Qkq (hn:Q4 c) (h20:c.ts.length<=20000) (hJ:J2 H j k) {d:Nat} (hF:PdC c 32 [] F d) (hkF:Kp c d F) (hst:Qt F) {w:Ex} {N:Nat} {K:ZF} (hg:Gd c d r) (he:r.e=0) {l:List Qn} (hlr:l.length<=r.a) {G:ZG} {env:Env}
 (h0:env.get 0=rp j) (h1:env.get 1=rp k)
 (hexit:l≠[]->Qd c [97,99,116,105,111,110] r=false->∀ env G,env.get 0=rp j->env.get 1=rp k->K (.exit 0) env (w2 H j k (pdO c r) ⟨tnC lb H.length l.length p,78,0,true⟩++tnL w l G))
 (hnext:Qd c [97,99,116,105,111,110] r=true->l.length≠10->(QQ c F r).2.e=0->∀ env G,env.get 0=rp j->env.get 1=rp k->LI Tryz.prog N Qf Qd3 env (w2 H j k (pdO c (QQ c F r).2) ⟨tnC lb H.length (l.length+1) p,78,0,true⟩++tnL w (l++[(QQ c F r).1]) G) K)
 (hbad:∀ rf:Rd,rf.e≠0->(l=[]/\Qd c [97,99,116,105,111,110] r=false/\rf=Qg c 11 r)\/(Qd c [97,99,116,105,111,110] r=true/\l.length=10/\rf=Qg c 12 r)\/(Qd c [97,99,116,105,111,110] r=true/\l.length≠10/\rf=(QQ c F r).2)->∀ env H',Qw H [j,k] H'->K (.panic (Q0 rf.e rf.p)) env H') :
 LI Tryz.prog N Qf Qd3 env (w2 H j k (pdO c r) ⟨tnC lb H.length l.length p,78,0,true⟩++tnL w l G) K:=by
 have hct:c.ts.length<4611686018427387904:=by omega
 have ha:=hg.a;have e2:=λo cs L f=>Qfb (o:=o) (p:=⟨cs,78,0,true⟩) hJ L f;have e3:=λo cs L=>Qfr (o:=o) hJ cs 78 L;have h79:=λp L e=>Qc3 (QbD (o:=pdO c r) (p:=p) hJ L) e;have h182:=λp L=>Qx2 hn h20 hF hkF hst (QbD (o:=pdO c r) (p:=p) hJ L) hg he;have is1:∀ (p:AO) (L:ZG) (q:Nat),L[q]? = some ⟨[st (B [97,99,116,105,111,110])],9,0,true⟩->Ok Tryz.prog 93 [rp j,.own (H.length+q) 0 1 1 0] (w2 H j k (pdO c r) p++L) (.ret (bl (Qd c [97,99,116,105,111,110] r))) (w2 H j k (pdO c r) p++L):=λp L q hL=>QvG hn hJ (s:=[97,99,116,105,111,110]) rfl he hL;have f11:(Qg c 11 r).e=11/\(Qg c 11 r).p=Qk c r:=by simp[Qg,he]
 have f12:(Qg c 12 r).e=12/\(Qg c 12 r).p=Qk c r:=by simp[Qg,he]
 have hb11:=hbad (Qg c 11 r) (by rw[f11.1]; decide);have hb12:=hbad (Qg c 12 r) (by rw[f12.1]; decide);rw[f11.1,f11.2]at hb11;rw[f12.1,f12.2]at hb12;have hcode:Qd3=.keep [0,1] (.seq (IC.nth 0 Qf6) (IC.nth 1 Qf6)):=rfl;refine Qu hm hcode ?_;generalize hK:(λ(x:XE) (env:Env) (H:ZG)=>match x with|.normal=>LI Tryz.prog N Qf Qd3 env H K|x=>K x env H)=K'
 have hKn:∀ env H,K' .normal env H=LI Tryz.prog N Qf Qd3 env H K:=λenv H=>by rw[<-hK]
 have hKp:∀ x env H,K' (.panic x) env H=K (.panic x) env H:=λx env H=>by rw[<-hK]
 have hKe:∀ n env H,K' (.exit n) env H=K (.exit n) env H:=λn env H=>by rw[<-hK]
 clear hK;have body:∀ (env:Env) (G:ZG),env.get 0=rp j->env.get 1=rp k->(l=[]\/Qd c [97,99,116,105,111,110] r=true) ->
  X Tryz.prog N Qf (IC.nth 1 Qf6) env (w2 H j k (pdO c r) ⟨tnC lb H.length l.length p,78,0,true⟩++tnL w l G) K':=by
  intro env G h0 h1 hc;simp -implicitDefEqProofs[IC.nth,Qf6,Qd3,h0,rp,tnC,tnL];refine Qc (by simpa[rp,tnC,tnL]using is1 ⟨tnC lb H.length l.length p,78,0,true⟩ (tnL w l (G++[⟨[st (B [97,99,116,105,111,110])],9,0,true⟩])) (G.length+3) (by simp[tnL])) ?_;by_cases hp:Qd c [97,99,116,105,111,110] r=true
  . simp -implicitDefEqProofs[h0,h1,rp,e3,hp];by_cases h10:l.length=10
    . have h10':(l.length:Int)=10:=by omega
      simp -implicitDefEqProofs[h10'];refine Qc (by simpa[rp,tnC,tnL]using h79 _ _ 12) ?_;simp -implicitDefEqProofs;rw[hKp];exact hb12 (.inr (.inl ⟨hp,h10,rfl⟩)) _ _ (Qw.w2 hJ (Qw.refl _ _))
    . have h10':¬ (l.length:Int)=10:=by omega
      have hb3:=λh=>hbad (QQ c F r).2 h (.inr (.inr ⟨hp,h10,rfl⟩));have hn3:=hnext hp h10;simp -implicitDefEqProofs[h10'];generalize QQ c F r=a at h182 hb3 hn3;refine Qaf (by simpa[rp]using h182 _ _) (λhe1 => ?_) (λhe1 H' hk => ?_)
      . rw[Qbe hJ];simp -implicitDefEqProofs[e2,e3,Qe7,Qa8 Qn.c_len];refine⟨by omega,by omega,?_⟩;rw[hKn];refine LI.cong ?_ (hn3 he1 _ (G++[⟨[st (B [97,99,116,105,111,110])],9,0,true⟩,⟨a.1.c,89,0,true⟩]) ?_ ?_)
        . simp[tnC,tnL,Qil,rws]
        all_goals simp[h0,h1,rp]
      . simp -implicitDefEqProofs;rw[hKp];exact hb3 he1 _ _ (hk.w2 hJ)
  . have hl0:=hc.resolve_right hp;rw[Vk]at hp;simp -implicitDefEqProofs[h0,rp,hp];refine Qc (by simpa[rp,tnC,tnL]using h79 _ _ 11) ?_;simp -implicitDefEqProofs;rw[hKp];exact hb11 (.inl ⟨hl0,hp,rfl⟩) _ _ (Qw.w2 hJ (Qw.refl _ _))
 generalize IC.nth 1 Qf6=B1 at body ⊢;by_cases hl0:l=[]
 . subst hl0;simp -implicitDefEqProofs[IC.nth,Qf6,Qd3,h0,h1,rp,e3,tnC,tnL];refine Qcm _ _ _ _ ?_;simp -implicitDefEqProofs;exact body _ G (by simp[rp]) (by simp[rp]) (.inl rfl)
 . simp -implicitDefEqProofs[IC.nth,Qf6,Qd3,h0,h1,rp,e3,tnC,tnL,hl0];refine QZ (r:=bl (Qd c [97,99,116,105,111,110] r)) (λ_=>by simpa[rp,tnC,tnL,SV.strip]using is1 ⟨tnC lb H.length l.length p,78,0,true⟩ (tnL w l (G++[⟨[st (B [97,99,116,105,111,110])],9,0,true⟩])) (G.length+3) (by simp[tnL])) ?_;by_cases hp:Qd c [97,99,116,105,111,110] r=true
   . simp -implicitDefEqProofs[hp];refine Xc ?_ (body _ (G++[⟨[st (B [97,99,116,105,111,110])],9,0,true⟩]) (by simp[rp]) (by simp[rp]) (.inr hp));simp[tnC,tnL]
   . rw[Vk]at hp;simp -implicitDefEqProofs[hp];rw[hKe];refine hexit hl0 hp _ (G++[⟨[st (B [97,99,116,105,111,110])],9,0,true⟩]) ?_ ?_<;>simp[rp]
theorem Qif {n:Nat} {l:List Qn} (h:r.e≠0):Qak c F 0 n l r=(l,r):=by
 cases n with
 |zero=>rfl
 |succ n=>rw[Qak,Zn (by rw[QaM h]; decide)]
theorem QBO (hn:Q4 c) (h20:c.ts.length<=20000) (hJ:J2 H j k) {d:Nat} (hF:PdC c 32 [] F d) (hkF:Kp c d F) (hst:Qt F) {w:Ex} {N:Nat} {K:ZF} {res:List Qn×Rd}
 (hexit:res.2.e=0->Gd c d res.2->∀ env G,env.get 0=rp j->env.get 1=rp k->K (.exit 0) env (w2 H j k (pdO c res.2) ⟨tnC lb H.length res.1.length p,78,0,true⟩++tnL w res.1 G))
 (hpan:res.2.e≠0->∀ env H',Qw H [j,k] H'->K (.panic (Q0 res.2.e res.2.p)) env H') :
 ∀ (n:Nat) (l:List Qn) (r:Rd) (G:ZG) (env:Env),c.ts.length<=r.a+n->l≠[]->l.length<=r.a->Qak c F 0 n l r=res->Gd c d r->r.e=0->env.get 0=rp j->env.get 1=rp k ->
  LI Tryz.prog N Qf Qd3 env (w2 H j k (pdO c r) ⟨tnC lb H.length l.length p,78,0,true⟩++tnL w l G) K:=by
 intro n
 induction n with
 |zero =>
  intro l r G env hna hl hlr hr hg he h0 h1;have hp:Qd c [97,99,116,105,111,110] r=false:=by rw[<-Vk]; intro h; have:=Qam h; omega
  rw[Qak]at hr;subst hr;refine Qkq hn h20 hJ hF hkF hst hg he hlr h0 h1 (λ_ _=>hexit he hg) (λh=>by rw[hp]at h; cases h) (λrf _ h => ?_)
  rcases h with h|h|h
  . exact absurd h.1 hl
  . rw[hp]at h; cases h.1
  . rw[hp]at h; cases h.1
 |succ n ih =>
  intro l r G env hna hl hlr hr hg he h0 h1;rw[Qak]at hr;by_cases hp:Qd c [97,99,116,105,111,110] r=true
  . rw[Zo hp]at hr;simp only at hr;have hlt:=Qam hp;have ht:(Qh c [97,99,116,105,111,110] r).2=Qa r:=by simp[Qh,hp]
    have hstr:r.a+1<=(QQ c F r).2.a:=by
     have:=QtK hkF (r:=r) (by rw[ht]; exact hg.next hlt)
     rw[ht]at this;exact this
    obtain⟨k1,k2⟩:=QiV hkF r hg;refine Qkq hn h20 hJ hF hkF hst hg he hlr h0 h1 (λ_ h=>by rw[hp]at h; cases h) (λ_ h10 he1 env G h0 h1 => ?_) (λrf hf h => ?_)
    . rw[Zn h10]at hr;refine LI.cong ?_ (ih (l++[(QQ c F r).1]) (QQ c F r).2 G env (by omega) (by simp) (by simp; omega) hr k1 he1 h0 h1);simp
    . rcases h with h|h|h
      . exact absurd h.1 hl
      . rw[Zo h.2.1,<- h.2.2]at hr;have hb:(QQ c F rf).2=rf:=QiT rf hf;rw[Qif (by rw[hb]; exact hf),hb]at hr;have:res.2=rf:=by rw[<-hr]
        rw[<-this]at hf ⊢;exact hpan hf
      . rw[Zn h.2.1,<- h.2.2,Qif hf]at hr;have:res.2=rf:=by rw[<-hr]
        rw[<-this]at hf ⊢;exact hpan hf
  . rw[Zn hp]at hr;rw[Vk]at hp;subst hr;refine Qkq hn h20 hJ hF hkF hst hg he hlr h0 h1 (λ_ _=>hexit he hg) (λh=>by rw[hp]at h; cases h) (λrf _ h => ?_)
    rcases h with h|h|h
    . exact absurd h.1 hl
    . rw[hp]at h; cases h.1
    . rw[hp]at h; cases h.1
theorem QBb (he:r.e=0) (hp:Qd c [97,99,116,105,111,110] r=false):(QQ c F r).2=Qg c 11 r:=by
 have hb:(Qg c 11 r).e≠0:=by simp[Qg,he]
 have ht:t2 c [97,99,116,105,111,110] r=Qg c 11 r:=by simp[t2,Qh,hp]
 unfold QQ;simp only[QjO,ht,Qek _ hb,QdU _ _ hb,QfS _ _ hb,Q9 _ hb,QeN hb,Qfu _ hb]
end
section
variable {H:ZG} {c:Cx} {r:Rd} {j k:Nat} {lb:ZE} {p:Int} {F:Rd->Ex×Rd}
theorem Qqs:∀ (n:Nat) (l:List Qn) (r:Rd),l.length<=(Qak c F 0 n l r).1.length
 |0,l,r=>Vb _
 |n+1,l,r=>by
  rw[Qak];split
  . have:=Qqs n (l++[(QQ c F (if l.length=10 then Qg c 12 r else r)).1]) (QQ c F (if l.length=10 then Qg c 12 r else r)).2;simp only[Vj,Vh,VH]at this;simp only;omega
  . exact Vb _
theorem Qw7 (hn:Q4 c) (h20:c.ts.length<=20000) (hcl:closed H) (hJ:J2 H j k) (he:r.e=0) (ha:r.a<=c.ts.length) {w:Ex} {l:List Qn} (hl0:l≠[]) {G:ZG} {env:Env} (h0:env.get 0=rp j) {res:Qb×Rd}
 (hres:(⟨2,lb,[],0,0,[],false,[],[w],l,[],p⟩,t2 c [125] r)=res) :
 X Tryz.prog Tryz.f148.ntmps Qf (IC.tl 4 QdX) env (w2 H j k (pdO c r) ⟨tnC lb H.length l.length p,78,0,true⟩++tnL w l G) (FinP H.length QjR (PdS c H j k res)):=by
 have hct:c.ts.length<4611686018427387904:=by omega
 subst hres;have hw:=QfP (p:=⟨tnC lb H.length l.length p,78,0,true⟩) (L:=tnL w l (G++[⟨[st (B [125])],9,0,true⟩])) (q:=G.length+3) (n:=1) (T:=9) (ver:=0) (l:=[[125]]) hn hct hJ (by simp[wds,tnL]) rfl (by simp) (by intro s hs; simp at hs; subst hs; rfl) he ha;simp[IC.tl,QdX,QjR,h0,rp,tnL];refine Qaf (by simpa[rp,tnL]using hw) (λhe2 => ?_) (λhe2 H' hk => ?_)
 . rw[Qbe hJ];simp;rw[Qay]at he2 ⊢;refine⟨_,_,PdS.ret (q:=(⟨2,lb,[],0,0,[],false,[],[w],l,[],p⟩,t2 c [125] r)) he2 rfl,?_⟩;refine Qns (L:=tnL w l (G++[⟨[st (B [125])],9,0,true⟩])) rfl hcl hJ ?_;have e1:=(Rw.own (n:=H.length) (q:=0) (m:=1) (sz:=5) (ver:=0) (T:=25) (L:=tnL w l (G++[⟨[st (B [125])],9,0,true⟩])) (cells:=w.c) rfl (by simp) (Ex.und _ w)).fz [] 1;have e2:=(Rw.own (n:=H.length) (q:=2) (m:=l.length) (sz:=6) (ver:=l.length) (T:=89) (L:=tnL w l (G++[⟨[st (B [125])],9,0,true⟩])) (cells:=rws Qn.c l) rfl (Qa8 Qn.c_len l) (QeU (Qn.und _) l)).fz [] 1;simp only[VE,V6]at e1 e2;simp only[tnC,Vg,VF,Qb.cN,e1,e2];simp[exN,acN,inN,hl0,exS,Ex.cL]
 . simp;exact⟨_,_,PdS.pan (q:=(⟨2,lb,[],0,0,[],false,[],[w],l,[],p⟩,t2 c [125] r)) he2 (hk.w2 hJ),Qj⟩
theorem Qzc (hn:Q4 c) (h20:c.ts.length<=20000) (hJ:J2 H j k) {d:Nat} (hF:PdC c 32 [] F d) (hkF:Kp c d F) (hst:Qt F) (ho:H[j]? = some (pdO c r)) (hk0:H[k]? = some ⟨sC lb p,78,0,true⟩) (hg:Gd c d r) (he:r.e=0) :
 OkP Tryz.prog 148 [rp j,rp k] H (PdS c H j k (QfE c F lb p r)):=by
 have hct:c.ts.length<4611686018427387904:=by omega
 have ha:=hg.a;have e2n:=λo cs f=>Ql6 (o:=o) (p:=⟨cs,78,0,true⟩) hJ f;have e3n:=λo cs=>QmK (o:=o) hJ cs 78;have e2:=λo cs L f=>Qfb (o:=o) (p:=⟨cs,78,0,true⟩) hJ L f;have e3:=λo cs L=>Qfr (o:=o) hJ cs 78 L;refine Qbd hm Tryz.func148 c148 (by simp[rp]) λhcl => ?_;refine Xc (H':=w2 H j k (pdO c r) ⟨sC lb p,78,0,true⟩) (Qmu ho hk0) ?_;have tail:∀ (w:Ex) (l:List Qn) (r:Rd) (G:ZG) (env:Env) (res:Qb×Rd),r.e=0->r.a<=c.ts.length->l≠[]->env.get 0=rp j->_->_:=λw l r G env res he ha hl0 h0 hr=>Qw7 (lb:=lb) (p:=p) (G:=G) (env:=env) (res:=res) (w:=w) (l:=l) hn h20 hcl hJ he ha hl0 h0 hr;rw[show QdX=.seq (IC.nth 0 QdX) (.seq (IC.nth 1 QdX) (.seq (IC.nth 2 QdX) (.seq (IC.nth 3 QdX) (IC.tl 4 QdX))))from rfl];generalize IC.tl 4 QdX=t4 at tail ⊢;generalize hres:QfE c F lb p r=res;unfold QfE at hres;have bad:∀ rf:Rd,rf.e≠0->res.2=rf->∀ H',Qw H [j,k] H'->PdS c H j k res (.pan (Q0 rf.e rf.p)) H':=by
  intro rf hf hs H' hk;rw[<-hs]at hf ⊢;exact PdS.pan hf hk
 have hc:=λp=>hF (QqA (o:=pdO c r) (p:=p) hJ) hg he;have hg1:=(hkF _ hg).1;simp[IC.nth,QdX,QjR,rp,e2n,e3n,sC];refine Q5 (by simpa[rp]using hc _) ?_;intro o H' hq;unfold PdP PdV at hq;generalize F r=q at hq hg1 hres;by_cases he1:q.2.e=0
 . rw[Zo he1]at hq;obtain⟨rfl,rfl⟩:=hq;rw[QqB hJ];have hw:=QfP (p:=⟨[i64 2,st (B lb),st (B []),i64 0,i64 0,nl,bl false,nl,.own H.length 0 1 5 0,nl,nl,i64 p],78,0,true⟩) (L:=[⟨q.1.c,25,0,true⟩,⟨[st (B [123])],9,0,true⟩]) (q:=1) (n:=1) (T:=9) (ver:=0) (l:=[[123]]) hn hct hJ (by simp[wds]) rfl (by simp) (by intro s hs; simp at hs; subst hs; rfl) he1 hg1.a;have hg2:=(QN (c:=c) (d:=d) [123] hg1).1;simp[e2,e3,Ex.v];refine Qaf (by simpa[rp]using hw) (λhe2 => ?_) (λhe2 H' hk => ?_)
   . rw[Qbe hJ];simp only[Qay]at he2 ⊢;try simp only at hres
     have hno:=QBb (c:=c) (r:=t2 c [123] q.2) (F:=F) he2;generalize t2 c [123] q.2=r2 at hg2 he2 hres hno ⊢;have hka:=QiV hkF r2 hg2;simp;refine LI.tell (Qaw.own0 (j:=k) (p:=9) (o:=⟨[i64 2,st (B lb),st (B []),i64 0,i64 0,nl,bl false,nl,.own H.length 0 1 5 0,nl,nl,i64 p],78,0,true⟩) (QjW hJ _) rfl rfl 89 6) ?_;rw[Qtc hJ];refine LI.cong (H':=w2 H j k (pdO c r2) ⟨tnC lb H.length ([]:List Qn).length p,78,0,true⟩++tnL q.1 [] []) (by simp[tnC,tnL,rws]) ?_;refine Qkq hn h20 hJ hF hkF hst hg2 he2 (by simp) (by simp[rp]) (by simp[rp]) (λh=>absurd rfl h) (λhp _ he3 env G h0 h1 => ?_) (λrf hf h env H' hk => ?_)
     . have hpos:1<=(QQ c F r2).2.a:=by
        have ht:(Qh c [97,99,116,105,111,110] r2).2=Qa r2:=by simp[Qh,hp]
        have:=QtK hkF (r:=r2) (by rw[ht]; exact hg2.next (Qam hp))
        rw[ht]at this;simp only[Qa]at this;omega
       generalize QQ c F r2=a at he3 hres hka hpos ⊢;try simp only at hres
       generalize hs:Qak c F 0 c.ts.length [a.1] a.2=s at hres;refine LI.cong (H':=w2 H j k (pdO c a.2) ⟨tnC lb H.length [a.1].length p,78,0,true⟩++tnL q.1 [a.1] G) (by simp) ?_;have hsl:s.1≠[]:=by
        have:=Qqs (c:=c) (F:=F) c.ts.length [a.1] a.2;rw[hs]at this;intro h;rw[h]at this;simp at this
       refine QBO hn h20 hJ hF hkF hst (res:=s) (λhs0 hgs env G h0 h1 => ?_) (λhs0 env H' hk => ?_) c.ts.length [a.1] a.2 G env (by omega) (by simp) (by simpa using hpos) hs hka.1 he3 h0 h1
       . simp;exact tail q.1 s.1 s.2 G env res hs0 hgs.a hsl h0 hres
       . simp;exact⟨_,_,bad s.2 hs0 (by rw[<-hres]; simp only[Q9 _ hs0]) _ hk,Qj⟩
     . simp;have hrf:(QQ c F r2).2=rf:=by
        rcases h with h|h|h
        . rw[hno h.2.1,h.2.2]
        . have:=h.2.1; simp at this
        . exact h.2.2.symm
       refine⟨_,_,bad rf hf ?_ _ hk,Qj⟩;rw[<-hres];simp only[hrf,Qif hf,Q9 _ hf]
   . simp;rw[Qay]at he2;refine⟨_,_,bad _ he2 ?_ _ (hk.w2 hJ),Qj⟩;rw[<-hres];simp only[QiT _ he2,Qif he2,Q9 _ he2]
 . rw[Zn he1]at hq;obtain⟨rfl,hk⟩:=hq;simp;have hk':Qw H [j,k] H':=(show Qw (w2 H j k (pdO c r) _++[]) [j] H' by simpa using hk).w2 hJ;refine⟨_,_,bad _ he1 ?_ _ hk',Qj⟩;rw[<-hres];simp only[Q9 _ he1,QiT _ he1,Qif he1]
end
section
variable {H:ZG} {c:Cx} {r:Rd} {j k:Nat} {lb:ZE} {p:Int} {F:Rd->Ex×Rd}
def Qgv (c:Cx) (F:Rd->Ex×Rd) (lb:ZE) (p:Int) (r:Rd):Qb×Rd :=
 let e:=Qcr c F (t2 c [112,97,121] (t2 c [123] r))
 (⟨3,lb,[],0,0,[],false,[],[],[],e.1,p⟩,t2 c [125] (t2 c [59] e.2))
def enC (lb:ZE) (n m:Nat) (p:Int):ZH:=[i64 3,st (B lb),st (B []),i64 0,i64 0,nl,bl false,nl,nl,nl,.own (n+1) 0 (m+1) 5 m,i64 p]
def enL (l:List Ex) (m:Nat) (G:ZG):ZG:=⟨[st (B [123]),st (B [112,97,121])],9,0,true⟩::⟨Ex.cL l,25,m,true⟩::G
def Nb (c:Cx) (F:Rd->Ex×Rd):Prop:=∀ r:Rd,r.e=0->QbE c r=false->(F r).2=Qg c 11 r
theorem Qin {n:Nat} {l:List Ex} (h:r.e≠0):Qao c F n l r=(l,r):=by
 cases n with
 |zero=>rfl
 |succ n=>rw[Qao,Zn (by rw[QaM h]; decide)]
set_option maxHeartbeats 2000000 in
theorem QCr (hn:Q4 c) (h20:c.ts.length<=20000) (hJ:J2 H j k) {d:Nat} (hF:PdC c 32 [] F d) (hkF:Kp c d F) (hst:Qt F) (hnb:Nb c F) {N:Nat} {K:ZF} {res:List Ex×Rd}
 (hexit:res.2.e=0->Gd c d res.2->∀ env G m,res.1.length=m+1->env.get 0=rp j->env.get 1=rp k->K (.exit 0) env (w2 H j k (pdO c res.2) ⟨enC lb H.length m p,78,0,true⟩++enL res.1 m G))
 (hpan:res.2.e≠0->∀ env H',Qw H [j,k] H'->K (.panic (Q0 res.2.e res.2.p)) env H') :
 ∀ (n:Nat) (l:List Ex) (m:Nat) (r:Rd) (G:ZG) (env:Env),c.ts.length<=r.a+n->l.length=m+1->l.length<=r.a->Qao c F n l r=res->Gd c d r->r.e=0->env.get 0=rp j->env.get 1=rp k ->
  LI Tryz.prog N Qf QgE env (w2 H j k (pdO c r) ⟨enC lb H.length m p,78,0,true⟩++enL l m G) K:=by
 have hct:c.ts.length<4611686018427387904:=by omega
 have out:∀ (l:List Ex) (m:Nat) (r:Rd) (G:ZG) (env:Env),Qd c [44] r=false->(l,r)=res->l.length=m+1->Gd c d r->r.e=0->env.get 0=rp j->env.get 1=rp k ->
  LI Tryz.prog N Qf QgE env (w2 H j k (pdO c r) ⟨enC lb H.length m p,78,0,true⟩++enL l m G) K:=by
  intro l m r G env hp hr hlm hg he h0 h1;refine Qu hm QgE.eq_1 ?_;have h90:=λp L=>Qde hn (QbD (o:=pdO c r) (p:=p) hJ L) (by have:=hg.a; omega) he (s:=[44]) rfl;simp[h0,h1,rp];refine Qc (by simpa[rp]using h90 _ _) ?_;simp only[Qae,hp];simp[h0,h1];rw[Qbe hJ];subst hr;exact hexit he hg _ G m hlm (by simp) (by simp)
 intro n
 induction n with
 |zero =>
  intro l m r G env hna hlm hlr hr hg he h0 h1;exact out l m r G env (by rw[<-Vk]; intro h; have:=Qam h; omega) hr hlm hg he h0 h1
 |succ n ih =>
  intro l m r G env hna hlm hlr hr hg he h0 h1;rw[Qao]at hr;by_cases hp:Qd c [44] r=true
  . rw[Zo hp]at hr;simp only[QcX hp]at hr;have ha:=hg.a;have hg1:=hg.next (Qam hp)
    have he1:(Qa r).e=0:=he;have e2:=λo cs L f=>Qfb (o:=o) (p:=⟨cs,78,0,true⟩) hJ L f;have e3:=λo cs L=>Qfr (o:=o) hJ cs 78 L;have h90:=λp L=>Qde hn (QbD (o:=pdO c r) (p:=p) hJ L) (by omega) he (s:=[44]) rfl;have h79:=λp L e=>Qc3 (QbD (o:=pdO c (Qa r)) (p:=p) hJ L) e;have h183:=λp L=>QyP hn (QbD (o:=pdO c (Qa r)) (p:=p) hJ L) he1;have hc:=λp L=>hF (QbD (o:=pdO c (Qa r)) (p:=p) hJ L) hg1 he1;refine Qu hm QgE.eq_1 ?_;simp[h0,h1,rp];refine Qc (by simpa[rp]using h90 _ _) ?_;rw[Qbe hJ];simp only[Qae,hp,Zs];simp[h0,h1,rp,e3,enC,enL];by_cases h32:l.length=32
    . have h32':(m:Int)+1=32:=by omega
      simp[h32'];refine Qc (by simpa[rp]using h183 _ _) ?_;by_cases hb:QbE c (Qa r)=true
      . rw[Zo ⟨h32,hb⟩]at hr;have hf:=QfM (e:=12) (by decide) hg1;have f12:(Qg c 12 (Qa r)).e=12/\(Qg c 12 (Qa r)).p=Qk c (Qa r):=by simp[Qg,he1]
        rw[hst _ hf.2.2,Qin hf.2.2]at hr;simp[hb];refine Qc (by simpa[rp]using h79 _ _ 12) ?_;simp;have:=hpan (by rw[<-hr]; exact hf.2.2);rw[<-hr]at this;simp only[f12.1,f12.2]at this;exact this _ _ (Qw.w2 hJ (Qw.refl _ _))
      . rw[Zn (λh=>hb h.2)]at hr;rw[Vk]at hb;have hf:=QfM (e:=11) (by decide) hg1;have f11:(Qg c 11 (Qa r)).e=11/\(Qg c 11 (Qa r)).p=Qk c (Qa r):=by simp[Qg,he1]
        rw[hnb _ he1 hb,Qin hf.2.2]at hr;simp[hb];refine Qc (by simpa[rp]using h79 _ _ 11) ?_;simp;have:=hpan (by rw[<-hr]; exact hf.2.2);rw[<-hr]at this;simp only[f11.1,f11.2]at this;exact this _ _ (Qw.w2 hJ (Qw.refl _ _))
    . have h32':¬ (m:Int)+1=32:=by omega
      rw[Zn (λh=>h32 h.1)]at hr;have hk2:=hkF _ hg1;simp[h32'];refine Q5 (by simpa[rp,enC,enL]using hc _ _) ?_;intro o H' hq;unfold PdP PdV at hq;generalize F (Qa r)=q at hq hr hk2;by_cases he2:q.2.e=0
      . rw[Zo he2]at hq;obtain⟨rfl,rfl⟩:=hq;rw[Qbe hJ];have hcl5:(Ex.cL l).length=(m+1)*5:=by rw[QiB,hlm]
        simp[e2,e3,Ex.v,hcl5];have nx:∀ env,env.get 0=rp j->env.get 1=rp k->LI Tryz.prog N Qf QgE env (w2 H j k (pdO c q.2) ⟨[i64 3,st (B lb),st (B []),i64 0,i64 0,nl,bl false,nl,nl,nl,.own (H.length+1) 0 (m+1+1) 5 (m+1),i64 p],78,0,true⟩++(⟨[st (B [123]),st (B [112,97,121])],9,0,true⟩::⟨Ex.cL l++(q.1.c++List.drop ((m+1)*5+5) (Ex.cL l++[i64 0,i64 0,st ⟨#[]⟩,.val (.slice none 0 0),i64 0])),25,m+1,true⟩::G)) K:=by
         intro env g0 g1;have hdr:List.drop ((m+1)*5+5) (Ex.cL l++[i64 0,i64 0,st ⟨#[]⟩,.val (.slice none 0 0),i64 0])=[]:=VS (by simp[hcl5]);rw[hdr,VE];have hna1:(Qa r).a=r.a+1:=rfl;refine LI.cong ?_ (ih (l++[q.1]) (m+1) q.2 G env (by omega) (by simp[hlm]) (by simp; omega) hr hk2.1 he2 g0 g1);simp[enC,enL,Qs7]
        refine⟨rfl,by omega,by omega,?_⟩;repeat' constructor
        all_goals first|omega|(refine nx _ ?_ ?_<;>simp[QhW,rp])
      . rw[Zn he2]at hq;obtain⟨rfl,hk⟩:=hq;simp;rw[Qin he2]at hr;subst hr;exact hpan he2 _ _ (hk.w2 hJ)
  . rw[Zn hp]at hr;rw[Vk]at hp;exact out l m r G env hp hr hlm hg he h0 h1
end
section
variable {H:ZG} {c:Cx} {r:Rd} {j k:Nat} {lb:ZE} {p:Int} {F:Rd->Ex×Rd}
theorem QCt (hn:Q4 c) (h20:c.ts.length<=20000) (hcl:closed H) (hJ:J2 H j k) (he:r.e=0) (ha:r.a<=c.ts.length) {l:List Ex} {m:Nat} (hlm:l.length=m+1) {G:ZG} {env:Env} (h0:env.get 0=rp j) {res:Qb×Rd}
 (hres:(⟨3,lb,[],0,0,[],false,[],[],[],l,p⟩,t2 c [125] (t2 c [59] r))=res) :
 X Tryz.prog Tryz.f149.ntmps Qf (IC.tl 4 QdZ) env (w2 H j k (pdO c r) ⟨enC lb H.length m p,78,0,true⟩++enL l m G) (FinP H.length Qjv (PdS c H j k res)):=by
 have hct:c.ts.length<4611686018427387904:=by omega
 subst hres;have hw:=QfP (p:=⟨enC lb H.length m p,78,0,true⟩) (L:=enL l m (G++[⟨[st (B [59]),st (B [125])],9,0,true⟩])) (q:=G.length+2) (n:=2) (T:=9) (ver:=0) (l:=[[59],[125]]) hn hct hJ (by simp[wds,enL]) rfl (by simp) (by intro s hs; simp at hs; rcases hs with rfl|rfl<;>rfl) he ha
 simp[IC.tl,QdZ,Qjv,h0,rp,enL];refine Qaf (by simpa[rp,enL]using hw) (λhe2 => ?_) (λhe2 H' hk => ?_)
 . rw[Qbe hJ];simp;rw[QhB]at he2 ⊢;refine⟨_,_,PdS.ret (q:=(⟨3,lb,[],0,0,[],false,[],[],[],l,p⟩,t2 c [125] (t2 c [59] r))) he2 rfl,?_⟩;refine Qns (L:=enL l m (G++[⟨[st (B [59]),st (B [125])],9,0,true⟩])) rfl hcl hJ ?_;have e1:=(Rw.own (n:=H.length) (q:=1) (m:=m+1) (sz:=5) (ver:=m) (T:=25) (L:=enL l m (G++[⟨[st (B [59]),st (B [125])],9,0,true⟩])) (cells:=Ex.cL l) rfl (by rw[QiB,hlm]) (Ex.undL _ l)).fz [] 1;simp only[VE]at e1;have hl0:l≠[]:=by rintro rfl; simp at hlm
   simp only[enC,Vg,VF,Qb.cN,e1];simp[exN,acN,inN,hl0,exS,hlm]
 . simp;exact⟨_,_,PdS.pan (q:=(⟨3,lb,[],0,0,[],false,[],[],[],l,p⟩,t2 c [125] (t2 c [59] r))) he2 (hk.w2 hJ),Qj⟩
theorem QuW (hn:Q4 c) (h20:c.ts.length<=20000) (hJ:J2 H j k) {d:Nat} (hF:PdC c 32 [] F d) (hkF:Kp c d F) (hst:Qt F) (hnb:Nb c F) (ho:H[j]? = some (pdO c r)) (hk0:H[k]? = some ⟨sC lb p,78,0,true⟩) (hg:Gd c d r) (he:r.e=0) :
 OkP Tryz.prog 149 [rp j,rp k] H (PdS c H j k (Qgv c F lb p r)):=by
 have hct:c.ts.length<4611686018427387904:=by omega
 have ha:=hg.a;have e2n:=λo cs f=>Ql6 (o:=o) (p:=⟨cs,78,0,true⟩) hJ f;have e3n:=λo cs=>QmK (o:=o) hJ cs 78;have e2:=λo cs L f=>Qfb (o:=o) (p:=⟨cs,78,0,true⟩) hJ L f;have e3:=λo cs L=>Qfr (o:=o) hJ cs 78 L;refine Qbd hm Tryz.func149 c149 (by simp[rp]) λhcl => ?_;refine Xc (H':=w2 H j k (pdO c r) ⟨sC lb p,78,0,true⟩) (Qmu ho hk0) ?_;have tail:∀ (l:List Ex) (m:Nat) (r:Rd) (G:ZG) (env:Env) (res:Qb×Rd),r.e=0->r.a<=c.ts.length->l.length=m+1->env.get 0=rp j->_->_:=λl m r G env res he ha hlm h0 hr=>QCt (lb:=lb) (p:=p) (G:=G) (env:=env) (res:=res) (l:=l) (m:=m) hn h20 hcl hJ he ha hlm h0 hr;rw[show QdZ=.seq (IC.nth 0 QdZ) (.seq (IC.nth 1 QdZ) (.seq (IC.nth 2 QdZ) (.seq (IC.nth 3 QdZ) (IC.tl 4 QdZ))))from rfl];generalize IC.tl 4 QdZ=t4 at tail ⊢;generalize hres:Qgv c F lb p r=res;unfold Qgv Qcr at hres;have bad:∀ rf:Rd,rf.e≠0->res.2=rf->∀ H',Qw H [j,k] H'->PdS c H j k res (.pan (Q0 rf.e rf.p)) H':=by
  intro rf hf hs H' hk;rw[<-hs]at hf ⊢;exact PdS.pan hf hk
 have hw:=QfP (p:=⟨[i64 3,st (B lb),st (B []),i64 0,i64 0,nl,bl false,nl,nl,nl,nl,i64 p],78,0,true⟩) (L:=[⟨[st (B [123]),st (B [112,97,121])],9,0,true⟩]) (q:=0) (n:=2) (T:=9) (ver:=0) (l:=[[123],[112,97,121]]) hn hct hJ (by simp[wds]) rfl (by simp) (by intro s hs; simp at hs; rcases hs with rfl|rfl<;>rfl) he ha
 have hg1:=(QN (c:=c) (d:=d) [112,97,121] (QN (c:=c) (d:=d) [123] hg).1).1;simp[IC.nth,QdZ,Qjv,rp,e2n,e3n,sC];refine Qaf (by simpa[rp]using hw) (λhe1 => ?_) (λhe1 H' hk => ?_)
 . rw[Qbe hJ];simp only[QhB]at he1 ⊢;have hp1:=(Qhc he1).2;generalize t2 c [112,97,121] (t2 c [123] r)=r1 at hg1 he1 hres hp1 ⊢;have hc:=λp L=>hF (QbD (o:=pdO c r1) (p:=p) hJ L) hg1 he1;have hg2:=(hkF _ hg1).1;have hka:=(hkF _ hg1).2;simp;refine Q5 (by simpa[rp]using hc _ _) ?_;intro o H' hq;unfold PdP PdV at hq;generalize F r1=q at hq hg2 hres hka;by_cases he2:q.2.e=0
   . rw[Zo he2]at hq;obtain⟨rfl,rfl⟩:=hq;rw[Qbe hJ];have hpos:1<=q.2.a:=by omega
     simp[e2,e3,Ex.v];generalize hs:Qao c F c.ts.length [q.1] q.2=s at hres;refine LI.cong (H':=w2 H j k (pdO c q.2) ⟨enC lb H.length 0 p,78,0,true⟩++enL [q.1] 0 []) (by simp[enC,enL,Ex.cL]) ?_;refine QCr hn h20 hJ hF hkF hst hnb (res:=s) (λhs0 hgs env G m hlm h0 h1 => ?_) (λhs0 env H' hk => ?_) c.ts.length [q.1] 0 q.2 [] _ (by omega) rfl (by simpa using hpos) hs hg2 he2 ?_ ?_
     . simp;exact tail s.1 m s.2 G env res hs0 hgs.a hlm h0 hres
     . simp;exact⟨_,_,bad s.2 hs0 (by rw[<-hres]; simp only[Q9 _ hs0]) _ hk,Qj⟩
     all_goals simp[rp]
   . rw[Zn he2]at hq;obtain⟨rfl,hk⟩:=hq;simp;refine⟨_,_,bad _ he2 ?_ _ (hk.w2 hJ),Qj⟩;rw[<-hres,Qin he2];simp only[Q9 _ he2]
 . simp;rw[QhB]at he1;refine⟨_,_,bad _ he1 ?_ _ (hk.w2 hJ),Qj⟩;rw[<-hres];generalize t2 c [112,97,121] (t2 c [123] r)=r1 at he1;have hF1:=hst r1 he1;rw[hF1,Qin he1];simp only[Q9 _ he1]
end
section
variable {H:ZG} {c:Cx} {r:Rd} {j:Nat} {F:Rd->Ex×Rd}
def QfN (c:Cx) (F:Rd->Ex×Rd) (r:Rd):Qb×Rd :=
 let l:=QaB c r
 if Qd c [100,101,97,108] l.2=true then QfI c F l.1 (Qk c l.2) (Qa l.2)
 else if Qd c [116,117,114,110] l.2=true then QfE c F l.1 (Qk c l.2) (Qa l.2)
 else if Qd c [101,110,100] l.2=true then Qgv c F l.1 (Qk c l.2) (Qa l.2)
 else(QdE,Qg c 11 l.2)
theorem Qx8 (hst:Qt F):Qe (QfN c F r) (Q8 c F r):=by
 unfold QfN Q8;simp only;generalize QaB c r=l;by_cases h1:Qd c [100,101,97,108] l.2=true
 . rw[Zo h1,Zo h1,Que,QcX h1];by_cases he:(QfI c F l.1 (Qk c l.2) (Qa l.2)).2.e=0
   . exact .inl ⟨he,rfl⟩
   . exact .inr ⟨he,rfl,rfl⟩
 . rw[Zn h1,Zn h1];by_cases h2:Qd c [116,117,114,110] l.2=true
   . rw[Zo h2,Zo h2,QB3,QcX h2];by_cases he:(QfE c F l.1 (Qk c l.2) (Qa l.2)).2.e=0
     . exact .inl ⟨he,rfl⟩
     . exact .inr ⟨he,rfl,rfl⟩
   . rw[Zn h2,Zn h2];by_cases h3:Qd c [101,110,100] l.2=true
     . rw[Zo h3];have e:(Qh c [101,110,100] l.2).2=Qa l.2:=by simp[Qh,h3]
       have e1:(Qh c [101,110,100] l.2).1=Qk c l.2:=rfl;simp only[e,e1];by_cases he:(Qgv c F l.1 (Qk c l.2) (Qa l.2)).2.e=0
       . exact .inl ⟨he,rfl⟩
       . exact .inr ⟨he,rfl,rfl⟩
     . rw[Zn h3];rw[Vk]at h3;have e:(Qh c [101,110,100] l.2).2=Qg c 11 l.2:=by simp[Qh,h3]
       simp only[e];by_cases he:l.2.e=0
       . have hb:(Qg c 11 l.2).e≠0:=by simp[Qg,he]
         refine .inr ⟨hb,?_,?_⟩<;>simp only[Q9 _ hb,Qim hst _ hb]
       . rw[Qeq he];refine .inr ⟨he,?_,?_⟩<;>simp only[Q9 _ he,Qim hst _ he]
theorem Qzt {o z S o' p':AO} {L:ZG} (hj:j<H.length):w2 (H.set j o++(z::S::L)) j (H.length+1) o' p'=H.set j o'++(z::p'::L):=by
 rw[w2,QaP hj,Yf _ _ (by simp)];simp
theorem J2.s1 {o z S:AO} {L:ZG} (hj:j<H.length):J2 (H.set j o++(z::S::L)) j (H.length+1):=⟨by simp; omega,by simp,by omega⟩
theorem Qw.s1 {o:AO} {L H':ZG} (h:Qw (H.set j o++L) [j,H.length+1] H'):Qw H [j] H':=by
 refine⟨Vi (by simp) h.len,λi hi hn => ?_⟩;simp only[Vd,Vu,Zt]at hn;rw[h.at_ i (by simp; omega) (by simp[hn]; omega),Vc (by simpa using hi),Vf (Ne.symm hn)]
theorem Qlh {o z S:AO} {L:ZG} {ks:ZI} {vs:ZH} {T v:Nat}:SV.mapOf (H.set j o++(z::S::(L++[⟨.mk ks::vs,T,v,false⟩]))) (.mp (H.length+(L.length+2)) v)=some (ks,vs):=by
 have h:(H.set j o++(z::S::(L++[⟨.mk ks::vs,T,v,false⟩])))[H.length+(L.length+2)]? = some ⟨.mk ks::vs,T,v,false⟩:=by
  rw[Vl (by simp)];simp
 simp only[SV.mapOf,h];rw[Zo ⟨trivial,trivial⟩]
def knK:ZI:=[.string ⟨#[100,101,97,108]⟩,.string ⟨#[116,117,114,110]⟩,.string ⟨#[101,110,100]⟩]
def knV:ZH:=[.fn (.func 147) [] [],.fn (.func 148) [] [],.fn (.func 149) [] []]
def knM:AO:=⟨.mk knK::knV,184,0,false⟩
theorem Qu0 (s:ZE):lkm (.string (B s)) knK knV=if s=[100,101,97,108]then some (.fn (.func 147) [] [])else if s=[116,117,114,110]then some (.fn (.func 148) [] [])else if s=[101,110,100]then some (.fn (.func 149) [] [])else none:=by
 have e1:(⟨#[100,101,97,108]⟩:ByteArray)=B [100,101,97,108]:=rfl;have e2:(⟨#[116,117,114,110]⟩:ByteArray)=B [116,117,114,110]:=rfl;have e3:(⟨#[101,110,100]⟩:ByteArray)=B [101,110,100]:=rfl;simp only[knK,knV,e1,e2,e3,lkm,QaL];by_cases h1:s=[100,101,97,108]
 . simp[h1]
 . by_cases h2:s=[116,117,114,110]
   . simp[h2]
   . by_cases h3:s=[101,110,100]
     . simp[h3]
     . simp[h1,h2,h3]
theorem QBU (x:Qb):(Qb.cN x).length=12:=rfl
theorem QwH (x:Qb):List.take 12 (Qb.cN x)=Qb.cN x:=rfl
theorem QyZ (x:Qb):QD (Qb.cN x):=by
 intro s hs;simp[Qb.cN]at hs;rcases hs with rfl|rfl|rfl|rfl|rfl|rfl|rfl|rfl|rfl|rfl|rfl|rfl<;>simp
theorem QBP (n:Nat) (x:Qb):SV.underL n (Qb.cN x)=true:=by simp[Qb.cN,SV.underL]
theorem QuA (hn:Q4 c) (h20:c.ts.length<=20000) (hj:j<H.length) (hcl:closed H) {d:Nat} (hF:PdC c 32 [] F d) (hkF:Kp c d F) (hst:Qt F) (hnb:Nb c F) (hg:Gd c d r) (he:r.e=0) {lb:ZE} {L:ZG} {env:Env} {res:Qb×Rd}
 (hres:(if Qd c [100,101,97,108] r=true then QfI c F lb (Qk c r) (Qa r)else if Qd c [116,117,114,110] r=true then QfE c F lb (Qk c r) (Qa r)else if Qd c [101,110,100] r=true then Qgv c F lb (Qk c r) (Qa r)else(QdE,Qg c 11 r))=res)
 (h0:env.get 0=rp j) (h2:env.get 2=rp H.length) (h3:env.get 3=rp (H.length+1)) :
 X Tryz.prog Tryz.f94.ntmps Qf (IC.tl 3 i94) env (H.set j (pdO c r)++(zS::lbO lb::L)) (FinP H.length r94 (PdV c H j Qfz res)):=by
 have hct:c.ts.length<4611686018427387904:=by omega
 have h139:=λL=>Qea (QbR hj (pdO c r) L);rw[show IC.tl 3 i94=.seq (IC.nth 3 i94) (IC.tl 4 i94)from rfl,show IC.tl 4 i94=.seq (IC.nth 4 i94) (IC.tl 5 i94)from rfl];generalize ht5:IC.tl 5 i94=t5;simp -implicitDefEqProofs[IC.nth,i94];refine QbX (x:=([],[])) Qlh rfl rfl rfl ?_;simp -implicitDefEqProofs[Qac,Qaa,SV.key];refine QbX (x:=([.string ⟨#[100,101,97,108]⟩],[.fn (.func 147) [] []])) Qlh rfl rfl rfl ?_;simp -implicitDefEqProofs[Qac,Qaa,QaL,SV.key];refine QbX (x:=([.string ⟨#[100,101,97,108]⟩,.string ⟨#[116,117,114,110]⟩],[.fn (.func 147) [] [],.fn (.func 148) [] []])) Qlh rfl rfl rfl ?_;simp -implicitDefEqProofs[Qac,Qaa,QaL,SV.key,h0,rp];refine Qc (by simpa[rp]using h139 _) ?_;have hmp:∀ S,SV.mapOf (H.set j (pdO c r)++(zS::S::(L++[knM]))) (.mp (H.length+(L.length+2)) 0)=some (knK,knV):=λS=>Qlh;simp only[knM,knK,knV]at hmp;have hlk:=Qu0 (tkR c r).tx;simp only[knK,knV]at hlk;have m1:(SV.mp (H.length+(L.length+2)) 0).ug=.mp (H.length+(L.length+2)) 0:=rfl;have m2:(SV.mp (H.length+(L.length+2)) 0).vd=true:=rfl;have q1:=QcV (c:=c) (r:=r) hn (s:=[100,101,97,108]) rfl he;have q2:=QcV (c:=c) (r:=r) hn (s:=[116,117,114,110]) rfl he;have q3:=QcV (c:=c) (r:=r) hn (s:=[101,110,100]) rfl he;rw[q1,q2,q3]at hres;simp only[Zq]at hres;have bad:∀ rf:Rd,rf.e≠0->res.2=rf->∀ H',Qw H [j] H'->PdV c H j Qfz res (.pan (Q0 rf.e rf.p)) H':=by
  intro rf hf hs H' hk;rw[<-hs]at hf ⊢;exact PdV.pan hf hk
 simp -implicitDefEqProofs[Tok.v,Tok.c,Qfh,QiS,hmp,hlk,m1,m2,h0,rp];have h79:=λL=>Qc3 (QbR hj (pdO c r) L) 11;have h140:=λL (h:r.a<4611686018427387904)=>Qf8 (QbR hj (pdO c r) L) h;have fin:∀ (f:Nat) (env:Env) (q:Qb×Rd),q=res->r.a<c.ts.length->env.get 0=rp j->env.get 2=rp H.length->env.get 3=rp (H.length+1)->env.get 5=.fn (.func f) [] []->env.get 6=bl true ->
  (∀ G:ZG,J2 G j (H.length+1)->G[j]? = some (pdO c (Qa r))->G[H.length+1]? = some ⟨sC lb (Qk c r),78,0,true⟩->OkP Tryz.prog f [rp j,rp (H.length+1)] G (PdS c G j (H.length+1) q)) ->
  X Tryz.prog Tryz.f94.ntmps Qf t5 env (H.set j (pdO c r)++(zS::lbO lb::(L++[⟨.mk knK::knV,184,0,false⟩]))) (FinP H.length r94 (PdV c H j Qfz res)):=by
  intro f env q hq hlt h0 h2 h3 h5 h6 hf;subst hq;rw[<-ht5];have hfG:=hf (H.set j (pdO c (Qa r))++(zS::⟨sC lb (Qk c r),78,0,true⟩::(L++[⟨.mk knK::knV,184,0,false⟩]))) (J2.s1 hj) (QbR hj _ _) (by simp);simp -implicitDefEqProofs[IC.tl,i94,r94,h0,h6,rp];refine Qc (by simpa[rp]using Qnf (c:=c) hj r _) ?_;simp -implicitDefEqProofs[h0,h3,rp,lbO];refine Qc (by simpa[rp]using h140 _ (by omega)) ?_;rw[QaP hj];simp -implicitDefEqProofs[h0,h3,h5,rp];refine Q5 (by simpa[rp,sC]using hfG) ?_;intro o H' hp;unfold PdS at hp;by_cases he2:q.2.e=0
  . rw[Zo he2]at hp;obtain⟨rfl,rfl⟩:=hp;rw[Qzt hj];have c1:=QBU q.1;have c2:=QwH q.1;have c3:=Zv (QyZ q.1);simp -implicitDefEqProofs[h2,h3,rp,stO,zS,c1,c2,c3];refine⟨_,_,PdV.got (x:=q.1) he2 rfl rfl rfl,?_⟩;refine Cv.le (Qq (n0:=H.length) (r:=.agg (Qb.cN q.1)) 3 (QbQ (c:=c) (a:=q.2.a) (v:=q.2.v) hcl) (by simp) ?_) (Qga (QyI _));exact Qdh (by simp only[SV.under]; exact QBP _ _)
  . rw[Zn he2]at hp;obtain⟨rfl,hk⟩:=hp;simp -implicitDefEqProofs;exact⟨_,_,PdV.pan he2 hk.s1,Qj⟩
 have lt_of:∀ s:ZE,Qd c s r=true->r.a<c.ts.length:=λs h=>Qam h;by_cases h1:(tkR c r).tx=[100,101,97,108]
 . rw[Zo h1]at hres;simp -implicitDefEqProofs[h1];refine⟨⟨rfl,rfl,rfl⟩,?_⟩;refine fin 147 _ _ hres (lt_of _ (by rw[q1]; simpa using h1)) ?_ ?_ ?_ ?_ ?_ (λG hJ hG1 hG2=>QzP hn h20 hJ hF hkF hst hG1 hG2 (hg.next (lt_of _ (by rw[q1]; simpa using h1))) he)
   all_goals simp[h0,h2,h3,rp]
 . rw[Zn h1]at hres;by_cases h2':(tkR c r).tx=[116,117,114,110]
   . rw[Zo h2']at hres;simp -implicitDefEqProofs[h2'];refine⟨⟨rfl,rfl,rfl⟩,?_⟩;refine fin 148 _ _ hres (lt_of _ (by rw[q2]; simpa using h2')) ?_ ?_ ?_ ?_ ?_ (λG hJ hG1 hG2=>Qzc hn h20 hJ hF hkF hst hG1 hG2 (hg.next (lt_of _ (by rw[q2]; simpa using h2'))) he)
     all_goals simp[h0,h2,h3,rp]
   . rw[Zn h2']at hres;by_cases h3':(tkR c r).tx=[101,110,100]
     . rw[Zo h3']at hres;simp -implicitDefEqProofs[h3'];refine⟨⟨rfl,rfl,rfl⟩,?_⟩;refine fin 149 _ _ hres (lt_of _ (by rw[q3]; simpa using h3')) ?_ ?_ ?_ ?_ ?_ (λG hJ hG1 hG2=>QuW hn h20 hJ hF hkF hst hnb hG1 hG2 (hg.next (lt_of _ (by rw[q3]; simpa using h3'))) he)
       all_goals simp[h0,h2,h3,rp]
     . rw[Zn h3']at hres;have hb:(Qg c 11 r).e=11/\(Qg c 11 r).p=Qk c r:=by simp[Qg,he]
       rw[<-ht5];simp -implicitDefEqProofs[h1,h2',h3',IC.tl,i94,h0,rp];refine⟨⟨rfl,rfl,rfl⟩,?_⟩;have h79':=h79 (zS::lbO lb::(L++[knM]));simp only[knM,knK,knV,rp]at h79';refine Qc h79' ?_;simp -implicitDefEqProofs;have:=λH' hk=>bad (Qg c 11 r) (by rw[hb.1]; decide) (by rw[<-hres]) H' hk;rw[hb.1,hb.2]at this;exact⟨_,_,this _ (Qw.of_set (o:=pdO c r) (Qw.refl _ _)),Qj⟩
theorem Qyw (hn:Q4 c) (h20:c.ts.length<=20000) {d:Nat} (hF:PdC c 32 [] F d) (hkF:Kp c d F) (hst:Qt F) (hnb:Nb c F) (ho:H[j]? = some (pdO c r)) (hg:Gd c d r) (he:r.e=0):OkP Tryz.prog 94 [rp j] H (PdV c H j Qfz (QfN c F r)):=by
 have hj:=Ql ho;have hct:c.ts.length<4611686018427387904:=by omega
 have ha:=hg.a;refine Qbd hm Tryz.func94 c94 (by simp[rp]) λhcl => ?_;have tail:∀ (lb:ZE) (r1:Rd) (L:ZG) (env:Env),QaB c r=(lb,r1)->Gd c d r1->r1.e=0->env.get 0=rp j->env.get 2=rp H.length->env.get 3=rp (H.length+1) ->
  X Tryz.prog Tryz.f94.ntmps Qf (IC.tl 3 i94) env (H.set j (pdO c r1)++(zS::lbO lb::L)) (FinP H.length r94 (PdV c H j Qfz (QfN c F r))):=by
  intro lb r1 L env hl hg1 he1 h0 h2 h3;exact QuA (lb:=lb) (L:=L) hn h20 hj hcl hF hkF hst hnb hg1 he1 (by unfold QfN; rw[hl]) h0 h2 h3
 have hbad:∀ rf:Rd,rf.e≠0->(QaB c r).2=rf->∀ H',Qw H [j] H'->PdV c H j Qfz (QfN c F r) (.pan (Q0 rf.e rf.p)) H':=by
  intro rf hf hs H' hk;have:(QfN c F r).2=rf:=by
   unfold QfN;simp only[hs];rw[Zn (by rw[QaM hf]; decide),Zn (by rw[QaM hf]; decide),Zn (by rw[QaM hf]; decide)];exact Qeq hf
  rw[<-this]at hf ⊢;exact PdV.pan hf hk
 have h92:=λL=>Qhb (H:=H++L) (c:=c) (r:=r) (j:=j) (by rw[Vc hj]; exact ho) he;have h88:=λL=>Qip (c:=c) (r:=r) hj (by omega) he L false;simp only[Qit]at h88;rw[show i94=.seq (IC.nth 0 i94) (.seq (IC.nth 1 i94) (.seq (IC.nth 2 i94) (IC.tl 3 i94)))from rfl];generalize IC.tl 3 i94=t3 at tail ⊢;refine Xc (H':=H.set j (pdO c r)++[]) (by rw[VE]; exact QcZ ho) ?_;have h92p:=λL=>Qhb (QbR hj (pdO c r) L) he;simp -implicitDefEqProofs[IC.nth,i94,rp];refine Qc (by simpa[rp]using h92p _) ?_;by_cases hp:QU c r=true
 . have hl:QaB c r=((QK c r).1,t2 c [58] (QK c r).2):=by unfold QaB; rw[Zo hp]
   have hg1:=(Qcq (c:=c) (d:=d) r hg).1;rw[hl]at tail hbad;simp -implicitDefEqProofs[hp];generalize QK c r=w at h88 hg1 tail hbad;refine Qaf (by simpa[rp]using h88 _) (λhe1 => ?_) (λhe1 H' hk => ?_)
   . rw[QaP hj];have hw:=Qd0 (H:=H) (j:=j) (r:=w.2) (L:=[zS,lbO w.1,⟨[st (B [58])],9,0,true⟩]) (q:=2) (n:=1) (T:=9) (ver:=0) (l:=[[58]]) hn hct hj (by simp[wds]) rfl (by simp) (by intro s hs; simp at hs; subst hs; rfl) he1 hg1.a;have hg2:=(QN (c:=c) (d:=d) [58] hg1).1;simp -implicitDefEqProofs;refine Qaf (by simpa[rp,zS,lbO]using hw) (λhe2 => ?_) (λhe2 H' hk => ?_)
     . rw[QaP hj];simp only[Qay]at he2 ⊢;simp -implicitDefEqProofs;refine Xc ?_ (tail w.1 (t2 c [58] w.2) [⟨[st (B [58])],9,0,true⟩] _ rfl hg2 he2 ?_ ?_ ?_)
       . simp[zS,lbO]
       all_goals simp[rp]
     . simp -implicitDefEqProofs;rw[Qay]at he2;exact⟨_,_,hbad _ he2 rfl _ hk.of_set,Qj⟩
   . simp -implicitDefEqProofs;exact⟨_,_,hbad _ he1 (Q9 _ he1) _ hk.of_set,Qj⟩
 . have hl:QaB c r=([],r):=by unfold QaB; rw[Zn hp]
   simp -implicitDefEqProofs[hp];refine Xc ?_ (tail [] r [] _ hl hg he ?_ ?_ ?_)
   . simp[zS,lbO]
   all_goals simp[rp]
theorem ok94 (hn:Q4 c) (h20:c.ts.length<=20000) {d:Nat} (hF:PdC c 32 [] F d) (hkF:Kp c d F) (hst:Qt F) (hnb:Nb c F) (ho:H[j]? = some (pdO c r)) (hg:Gd c d r) (he:r.e=0):OkP Tryz.prog 94 [rp j] H (PdV c H j Qfz (Q8 c F r)) :=
 (Qyw hn h20 hF hkF hst hnb ho hg he).mono λo H' h=>h.eqv (Qx8 hst)
end
theorem Qqq:∀ (tx:ZE) (n:Int),0<=n->n<=1000000000->(∀ c∈tx,48<=c.toNat)->(QaD tx n).1=0->0<=(QaD tx n).2/\(QaD tx n).2<=1000000000
 |[],n,h1,h2,_,_=>⟨h1,h2⟩
 |c::r,n,h1,h2,hd,he=>by
  unfold QaD at he ⊢;split at he
  . cases he
  . rename_i hn;rw[Zn hn];have:=hd c (by simp);exact Qqq r _ (by omega) (by omega) (λx hx=>hd x (by simp[hx])) he
theorem Qja {l:ZE} {p q q':Nat} {k:Int} {t:Tok} (h:QV l p k q=.tok t q'):t.n=(whE l k (cut l p q) p).2/\(whE l k (cut l p q) p).1=0:=by
 unfold QV at h;split at h
 . cases h
 . rename_i hn
   cases h
   exact⟨rfl,Classical.byContradiction hn⟩
theorem QnH {l tx:ZE} {k:Int} {p:Nat} (hk:k≠2):(whE l k tx p).2=0:=by
 unfold whE;split
 . rfl
 . split
   . rfl
   . rfl
theorem Qvg {l:ZE} {p q:Nat} {t:Tok} (h:Qx l p=.tok t q):0<=t.n/\t.n<=1000000000:=by
 unfold Qx at h;split at h
 . cases h
 . split at h
   . have:=(Qja h).1; rw[QnH (by decide)]at this; omega
   . split at h
     . obtain⟨h1,h2⟩:=Qja h;have hd:=Qko (l:=l) (p:=p);generalize cut l p (Qas l [3] p)=tx at h1 h2 hd;rw[h1];unfold whE at h2 ⊢;split at h2
       . cases h2
       . split at h2
         . cases h2
         . split at h2
           . rename_i h5; exact absurd rfl h5
           . split at h2
             . cases h2
             . rename_i a1 a2 a3 a4;rw[Zn a1,Zn a2,Zn a3,Zn a4];exact Qqq tx 0 (by decide) (by decide) (λc hc=>(hd c hc).1) h2
     . split at h
       . have:=(Qja h).1; rw[QnH (by decide)]at this; omega
       . split at h
         . cases h
         . have:=(Qja h).1; rw[QnH (by decide)]at this; omega
def QfZ (c:Cx):Prop:=∀ t∈c.ts,0<=t.n/\t.n<=1000000000
theorem tokN (l:ZE):QfZ ⟨(Qi l).1,l.length⟩:=by
 intro t ht;simp only at ht;unfold Qi at ht;split at ht
 . simp at ht
 . split at ht
   . obtain⟨p,q,hp,hs⟩:=Qkl _ _ ht;exact Qvg hs
   . simp at ht
theorem QuH {c:Cx} (h:QfZ c) (r:Rd):0<=(nmR c r).1/\(nmR c r).1<=1000000000:=by
 unfold nmR;split
 . rename_i hp;obtain⟨_,hlt,_⟩:=QbV hp;simp only[List.getD,Ve hlt,VX];exact h _ (Vt hlt)
 . simp
section
variable {H:ZG} {c:Cx} {r:Rd} {j:Nat}
theorem Qwp (hN:QfZ c) (l:List Qm) (hp:Qd c [118,97,114] r=true) {w:ZE×Rd} (hw:Qbl c (decide (l.length=40)) (Qa r)=w) {f:Bool} (hf:Qd c [45] (t2 c [61] w.2)=f) {n:Int×Rd} (hn:nmR c (if f=true then Qa (t2 c [61] w.2)else t2 c [61] w.2)=n) :
 Qbb c l r=(⟨w.1,if f=true then IntKind.i64.wrap (-n.1)else n.1,Qk c (Qa r)⟩,t2 c [59] n.2):=by
 have hh:Qk c (if l.length=40/\QU c (Qa r)=true then Qg c 12 (Qa r)else Qa r)=Qk c (Qa r):=by
  split
  . unfold Qg; split<;>rfl
  . rfl
 have hw':QK c (if l.length=40/\QU c (Qa r)=true then Qg c 12 (Qa r)else Qa r)=w:=by
  rw[<-hw]; unfold Qbl; simp only[Zq]
 have hr:=QuH hN (if f=true then Qa (t2 c [61] w.2)else t2 c [61] w.2);rw[hn]at hr;unfold Qbb;simp only[QcX hp,hh,hw']
 cases f with
 |true =>
  have hfl:QaR c [45] (t2 c [61] w.2)=(true,Qa (t2 c [61] w.2)):=by unfold QaR; rw[Zo hf,QcX hf]
  rw[Zo rfl]at hn;simp only[hfl,hn,Zs,Int.neg_one_mul]
 |false =>
  have hfl:QaR c [45] (t2 c [61] w.2)=(false,t2 c [61] w.2):=by unfold QaR; rw[Zn (by rw[hf]; decide)]
  rw[Zn (by decide)]at hn;have e:IntKind.i64.wrap n.1=n.1:=Qah (by omega) (by omega);simp[hfl,hn,e]
theorem Qg0 {n:Nat} {l:List Qm} (h:r.e≠0):Qab c n l r=(l,r):=by
 cases n with
 |zero=>rfl
 |succ n=>rw[Qab,Zn (by rw[QaM h]; decide)]
def Qaq (n:Nat) (nm:ZE) (pl:Int) (v s:Nat):AO:=⟨[st (B nm),i64 pl,.own (n+2) 0 v 3 v,.own (n+3) 0 s 12 s],36,0,true⟩
def rL (n:Nat) (nm:ZE) (pl:Int) (vs:List Qm) (ss:List Qb) (G:ZG):ZG:=zR::Qaq n nm pl vs.length ss.length::Qdy vs::Qdu ss::G
set_option maxHeartbeats 2000000 in
theorem QAf (hn:Q4 c) (hN:QfZ c) (h20:c.ts.length<=20000) (hj:j<H.length) {d:Nat} {nm:ZE} {pl:Int} {N:Nat} {K:ZF} {res:List Qm×Rd}
 (hexit:res.2.e=0->Gd c d res.2->∀ env G,env.get 0=rp j->env.get 2=rp H.length->env.get 3=rp (H.length+1)->K (.exit 0) env (H.set j (pdO c res.2)++rL H.length nm pl res.1 [] G))
 (hpan:res.2.e≠0->∀ env H',Qw H [j] H'->K (.panic (Q0 res.2.e res.2.p)) env H') :
 ∀ (n:Nat) (l:List Qm) (r:Rd) (G:ZG) (env:Env),c.ts.length<=r.a+n->l.length<=r.a->Qab c n l r=res->Gd c d r->r.e=0->env.get 0=rp j->env.get 2=rp H.length->env.get 3=rp (H.length+1) ->
  LI Tryz.prog N Qf QgH env (H.set j (pdO c r)++rL H.length nm pl l [] G) K:=by
 have hct:c.ts.length<4611686018427387904:=by omega
 have out:∀ (l:List Qm) (r:Rd) (G:ZG) (env:Env),Qd c [118,97,114] r=false->(l,r)=res->Gd c d r->r.e=0->env.get 0=rp j->env.get 2=rp H.length->env.get 3=rp (H.length+1) ->
  LI Tryz.prog N Qf QgH env (H.set j (pdO c r)++rL H.length nm pl l [] G) K:=by
  intro l r G env hp hr hg he h0 h2 h3;refine Qu hm QgH.eq_1 ?_;have h90:=λL=>Qiu (c:=c) (r:=r) hn hj (by have:=hg.a; omega) he L (s:=[118,97,114]) rfl;simp -implicitDefEqProofs[h0,h2,h3,rp];refine Qc (by simpa[rp]using h90 _) ?_;simp only[Qae,hp];simp -implicitDefEqProofs[h0,h2,h3];subst hr;exact hexit he hg _ G (by simp) (by simp) (by simp)
 intro n
 induction n with
 |zero =>
  intro l r G env hna hla hr hg he h0 h2 h3;exact out l r G env (by rw[<-Vk]; intro h; have:=Qam h; omega) hr hg he h0 h2 h3
 |succ n ih =>
  intro l r G env hna hla hr hg he h0 h2 h3;rw[Qab]at hr;by_cases hp:Qd c [118,97,114] r=true
  . rw[Zo hp]at hr;have ha:=hg.a;have hg1:=hg.next (Qam hp)
    have he1:(Qa r).e=0:=he;obtain⟨k1,k2⟩:=Qo3 (c:=c) (d:=d) l r hg;have k3:=Qy2 (c:=c) (d:=d) l hg;have hveq:=λw (hw:Qbl c (decide (l.length=40)) (Qa r)=w) f hf n hn=>Qwp (c:=c) (r:=r) hN l hp (w:=w) hw (f:=f) hf (n:=n) hn;have hd:(decide ((l.length:Int)=40))=decide (l.length=40):=by rw[ZC]; omega
    have h90:=λL=>Qiu (c:=c) (r:=r) hn hj (by omega) he L (s:=[118,97,114]) rfl;have h88:=λL=>Qip (c:=c) (r:=Qa r) hj (by have:=hg1.a; omega) he1 L (decide (l.length=40));have hgw:=(Qrv (decide (l.length=40)) hg1).1;refine Qu hm QgH.eq_1 ?_;simp -implicitDefEqProofs[h0,h2,h3,rp];refine Qc (by simpa[rp]using h90 _) ?_;simp only[Qae,hp,Zs];simp -implicitDefEqProofs[h0,h2,h3,rp];refine Qc (by simpa[rp]using Qnf (c:=c) hj (Qa r) _) ?_;simp -implicitDefEqProofs[h0,h2,h3,rp,rL,Qaq,hd];generalize Qbl c (decide (l.length=40)) (Qa r)=w at h88 hgw hveq;have hveq:=hveq w rfl;have bad:∀ rf:Rd,rf.e≠0->(Qbb c l r).2=rf->∀ env H',Qw H [j] H'->K (.panic (Q0 rf.e rf.p)) env H':=by
     intro rf hf hs env H' hk;rw[Qg0 (by rw[hs]; exact hf),hs]at hr;subst hr;exact hpan hf _ _ hk
    refine Qaf (by simpa[rp]using h88 _) (λhe2 => ?_) (λhe2 H' hk => ?_)
    . rw[QaP hj];have hg2:=(QN (c:=c) (d:=d) [61] hgw).1;have hw:=Qd0 (H:=H) (j:=j) (r:=w.2) (L:=zR::Qaq H.length nm pl l.length 0::Qdy l::Qdu []::(G++[⟨[st (B w.1),i64 0,i64 (Qk c (Qa r))],75,0,true⟩,⟨[st (B [61])],9,0,true⟩])) (q:=G.length+1+4) (n:=1) (T:=9) (ver:=0) (l:=[[61]]) hn hct hj (by simp[wds]) rfl (by simp) (by intro s hs; simp at hs; subst hs; rfl) he2 hgw.a;simp -implicitDefEqProofs[h0,h2,h3,rp];refine Qaf (by simpa[rp,Qaq]using hw) (λhe3 => ?_) (λhe3 H' hk => ?_)
      . rw[QaP hj];simp only[Qay]at he3 ⊢;generalize t2 c [61] w.2=r3 at hg2 he3 hveq ⊢;have ha3:=hg2.a;have h90:=λL=>Qiu (c:=c) (r:=r3) hn hj (by omega) he3 L (s:=[45]) rfl;have hga:Gd c d (Qae c [45] r3):=by
         unfold Qae; split
         . rename_i h; exact hg2.next (Qam h)
         . exact hg2
        have hea:(Qae c [45] r3).e=0:=by unfold Qae; split<;>exact he3
        have hveq:=λn=>hveq (Qd c [45] r3) rfl n;rw[<-QAQ]at hveq;simp -implicitDefEqProofs[h0,h2,h3,rp];refine Qc (by simpa[rp]using h90 _) ?_;generalize Qae c [45] r3=r4 at hga hea hveq ⊢;generalize Qd c [45] r3=f at hveq ⊢;have h89:=λL=>Qs6 (c:=c) (r:=r4) hj (by have:=hga.a; omega) hea L false;simp only[QhE]at h89;have hg4:=(Qch (c:=c) (d:=d) r4 hga).1;simp -implicitDefEqProofs[h0,h2,h3,rp];generalize nmR c r4=q at h89 hg4 hveq;have hveq:=hveq q rfl;refine Qaf (by simpa[rp]using h89 _) (λhe4 => ?_) (λhe4 H' hk => ?_)
        . rw[QaP hj];have fin:∀ (N1:Int),N1=(if f=true then IntKind.i64.wrap (-q.1)else q.1)->OkP Tryz.prog 87 [rp j,.own (H.length+(G.length+6)) 0 1 1 0] (H.set j (pdO c q.2)++zR::Qaq H.length nm pl l.length 0::Qdy l::Qdu []::(G++[⟨[st (B w.1),i64 N1,i64 (Qk c (Qa r))],75,0,true⟩,⟨[st (B [61])],9,0,true⟩,⟨[st (B [59])],9,0,true⟩])) (PdV c (H.set j (pdO c q.2)++zR::Qaq H.length nm pl l.length 0::Qdy l::Qdu []::(G++[⟨[st (B w.1),i64 N1,i64 (Qk c (Qa r))],75,0,true⟩,⟨[st (B [61])],9,0,true⟩,⟨[st (B [59])],9,0,true⟩])) j (λ_:Unit=>.tup []) ((),QcM c [[59]] q.2)):=by
           intro N1 _;exact Qd0 (H:=H) (j:=j) (r:=q.2) (q:=G.length+2+4) (n:=1) (T:=9) (ver:=0) (l:=[[59]]) hn hct hj (by simp[wds]) rfl (by simp) (by intro s hs; simp at hs; subst hs; rfl) he4 hg4.a
          have nxt:∀ (N1:Int) (env:Env) (G':ZG),N1=(if f=true then IntKind.i64.wrap (-q.1)else q.1)->(t2 c [59] q.2).e=0->env.get 0=rp j->env.get 2=rp H.length->env.get 3=rp (H.length+1) ->
           LI Tryz.prog N Qf QgH env (H.set j (pdO c (t2 c [59] q.2))++zR::Qaq H.length nm pl (l.length+1) 0::⟨rws Qm.c l++[st (B w.1),i64 N1,i64 (Qk c (Qa r))],75,l.length+1,true⟩::Qdu []::G') K:=by
           intro N1 env G' hN1 he5 h0 h2 h3;have hs5:(Qbb c l r).2.e=0:=by rw[hveq]; exact he5
           have k3':=k3 hs5;refine LI.cong ?_ (ih (l++[(Qbb c l r).1]) (Qbb c l r).2 G' env (by omega) (by simp; omega) hr k1 hs5 h0 h2 h3);rw[hveq,<- hN1];simp[rL,Qaq,Qdy,Qil,rws,Qm.c]
          have bad5:(t2 c [59] q.2).e≠0->∀ env H',Qw H [j] H'->K (.panic (Q0 (t2 c [59] q.2).e (t2 c [59] q.2).p)) env H':=λh=>bad _ h (by rw[hveq])
          cases f with
          |true =>
           simp -implicitDefEqProofs[h0,h2,h3,rp];refine Qaf (by simpa[rp,Qaq]using fin (IntKind.i64.wrap (-q.1)) (by simp)) (λhe5 => ?_) (λhe5 H' hk => ?_)
           . rw[QaP hj];simp only[Qay]at he5 ⊢;simp -implicitDefEqProofs[h0,h2,h3,rp,Qdy,Qa8 Qm.c_len];refine⟨by omega,by omega,?_⟩;refine LI.cong ?_ (nxt (IntKind.i64.wrap (-q.1)) _ (G++[⟨[st (B w.1),i64 (IntKind.i64.wrap (-q.1)),i64 (Qk c (Qa r))],75,0,true⟩,⟨[st (B [61])],9,0,true⟩,⟨[st (B [59])],9,0,true⟩,⟨[st (B w.1),i64 (IntKind.i64.wrap (-q.1)),i64 (Qk c (Qa r))],75,0,true⟩]) (by simp) he5 ?_ ?_ ?_)
             . simp[Qaq]
             all_goals simp[rp]
           . simp -implicitDefEqProofs;rw[Qay]at he5;exact bad5 he5 _ _ hk.of_set
          |false =>
           simp -implicitDefEqProofs[h0,h2,h3,rp];refine Qaf (by simpa[rp,Qaq]using fin q.1 (by simp)) (λhe5 => ?_) (λhe5 H' hk => ?_)
           . rw[QaP hj];simp only[Qay]at he5 ⊢;simp -implicitDefEqProofs[h0,h2,h3,rp,Qdy,Qa8 Qm.c_len];refine⟨by omega,by omega,?_⟩;refine LI.cong ?_ (nxt q.1 _ (G++[⟨[st (B w.1),i64 q.1,i64 (Qk c (Qa r))],75,0,true⟩,⟨[st (B [61])],9,0,true⟩,⟨[st (B [59])],9,0,true⟩,⟨[st (B w.1),i64 q.1,i64 (Qk c (Qa r))],75,0,true⟩]) (by simp) he5 ?_ ?_ ?_)
             . simp[Qaq]
             all_goals simp[rp]
           . simp -implicitDefEqProofs;rw[Qay]at he5;exact bad5 he5 _ _ hk.of_set
        . simp -implicitDefEqProofs;exact bad _ he4 (by rw[hveq]; exact Q9 _ he4) _ _ hk.of_set
      . simp -implicitDefEqProofs;rw[Qay]at he3;have h2':=hveq false (QaM he3 _) (nmR c (t2 c [61] w.2)) (by rw[Zn (by decide)]);exact bad _ he3 (by rw[h2']; simp only[Qco _ he3,Q9 _ he3]) _ _ hk.of_set
    . simp -implicitDefEqProofs;have ht:t2 c [61] w.2=w.2:=Q9 _ he2;have h2':=hveq false (by rw[ht]; exact QaM he2 _) (nmR c w.2) (by rw[Zn (by decide),ht]);exact bad _ he2 (by rw[h2']; simp only[Qco _ he2,Q9 _ he2]) _ _ hk.of_set
  . rw[Zn hp]at hr;rw[Vk]at hp;exact out l r G env hp hr hg he h0 h2 h3
end
section
variable {H:ZG} {c:Cx} {r:Rd} {j:Nat} {F:Rd->Ex×Rd}
def QeM (c:Cx) (r:Rd):Bool:=QU c r||Qd c [100,101,97,108] r||Qd c [116,117,114,110] r||Qd c [101,110,100] r
theorem QqQ (l:List Qb):QaW c l r=if l.length=100/\QeM c r=true then Qg c 12 r else r:=rfl
theorem QxI (hst:Qt F) (he:r.e=0) (hb:QeM c r=false):(Q8 c F r).2=Qg c 11 r:=by
 unfold QeM at hb;simp only[Zb]at hb;obtain⟨⟨⟨h1,h2⟩,h3⟩,h4⟩:=hb;have hl:QaB c r=([],r):=by unfold QaB; rw[Zn (by simp[h1])]
 have hbad:(Qg c 11 r).e≠0:=by simp[Qg,he]
 have ht:(Qh c [101,110,100] r).2=Qg c 11 r:=by simp[Qh,h4]
 unfold Q8;simp only[hl];rw[Zn (by simp[h2]),Zn (by simp[h3])];simp only[ht,Q9 _ hbad,Qim hst _ hbad]
theorem QeX {n:Nat} {l:List Qb} (h:r.e≠0):QL c F n l r=(l,r):=by
 cases n with
 |zero=>rfl
 |succ n=>rw[QL,Zn (λh2=>h h2.1)]
theorem isB (hn:Q4 c) (he:r.e=0):decide ((tkR c r).tx∈([[100,101,97,108],[116,117,114,110],[101,110,100]]:ZD))=(Qd c [100,101,97,108] r||Qd c [116,117,114,110] r||Qd c [101,110,100] r):=by
 rw[QcV hn (s:=[100,101,97,108]) rfl he,QcV hn (s:=[116,117,114,110]) rfl he,QcV hn (s:=[101,110,100]) rfl he,Bool.eq_iff_iff];simp[or_assoc]
def k39:IC:=match Qd4 with|.keep _ a=>a|a=>a
def b39:IC:=match IC.nth 1 k39 with|.blk _ a=>a|a=>a
set_option maxHeartbeats 4000000 in
theorem QCx (hn:Q4 c) (h20:c.ts.length<=20000) (hj:j<H.length) {d:Nat} (hF:PdC c 32 [] F d) (hkF:Kp c d F) (hst:Qt F) (hnb:Nb c F) {nm:ZE} {pl:Int} {vs:List Qm} {N:Nat} {K:ZF} {res:List Qb×Rd}
 (hexit:res.2.e=0->res.1≠[]->c.ts.length<=res.2.a->Gd c d res.2->∀ env G,env.get 2=rp H.length->env.get 3=rp (H.length+1)->K (.exit 2) env (H.set j (pdO c res.2)++rL H.length nm pl vs res.1 G))
 (hpan:res.2.e≠0->∀ env H',Qw H [j] H'->K (.panic (Q0 res.2.e res.2.p)) env H') :
 ∀ (n:Nat) (l:List Qb) (r:Rd) (G:ZG) (env:Env),c.ts.length<r.a+n->l.length<=r.a->QL c F n l r=res->Gd c d r->r.e=0->env.get 0=rp j->env.get 2=rp H.length->env.get 3=rp (H.length+1) ->
  LI Tryz.prog N Qf Qd4 env (H.set j (pdO c r)++rL H.length nm pl vs l G) K:=by
 have hct:c.ts.length<4611686018427387904:=by omega
 intro n
 induction n with
 |zero=>intro l r G env hna hla hr hg; have:=hg.a; omega
 |succ n ih =>
  intro l r G env hna hla hr hg he h0 h2 h3;have ha:=hg.a;rw[QL]at hr;have hcode:Qd4=.keep [0,2,3] (.seq (IC.nth 0 k39) (IC.nth 1 k39)):=rfl;refine Qu hm hcode ?_;generalize hK:(λ(x:XE) (env:Env) (H:ZG)=>match x with|.normal=>LI Tryz.prog N Qf Qd4 env H K|x=>K x env H)=K'
  have hKn:∀ env H,K' .normal env H=LI Tryz.prog N Qf Qd4 env H K:=λenv H=>by rw[<-hK]
  have hKp:∀ x env H,K' (.panic x) env H=K (.panic x) env H:=λx env H=>by rw[<-hK]
  have hKe:∀ n env H,K' (.exit n) env H=K (.exit n) env H:=λn env H=>by rw[<-hK]
  clear hK;have e3:∀ L,Qo (H.set j (pdO c r)++L) j 0=pdC c r.a r.v:=λL=>ocL (H:=H) hj _ 127 L;have pd1:∀ h,(pdC c r.a r.v)[1]'(h)=i64 r.a:=λ_=>rfl;have pd0:(pdC c r.a r.v).head?.getD .any=Qbc c.ts:=rfl;by_cases hcond:l=[]\/r.a<c.ts.length
  . rw[Zo ⟨he,hcond⟩]at hr;have body:∀ (env:Env),env.get 0=rp j->env.get 2=rp H.length->env.get 3=rp (H.length+1)->X Tryz.prog N Qf (IC.nth 1 k39) env (H.set j (pdO c r)++rL H.length nm pl vs l G) K':=by
     intro env h0 h2 h3;have h92:=λL=>Qhb (QbR hj (pdO c r) L) he;have h79:=λL e=>Qc3 (QbR hj (pdO c r) L) e;have h94:=λL=>ok94 hn h20 hF hkF hst hnb (QbR hj (pdO c r) L) hg he;have hfe:=QqQ (c:=c) (r:=r) l;have hsn:=QxI (c:=c) (r:=r) hst he;obtain⟨k1,k2⟩:=Qsa (c:=c) hkF r hg;have k3:=Qr2 (c:=c) hkF hg;have bad:∀ rf:Rd,rf.e≠0->(Q8 c F (QaW c l r)).2=rf->∀ env H',Qw H [j] H'->K (.panic (Q0 rf.e rf.p)) env H':=by
      intro rf hf hs env H' hk;rw[hs,QeX hf]at hr;subst hr;exact hpan hf _ _ hk
     have f11:(Qg c 11 r).e=11/\(Qg c 11 r).p=Qk c r:=by simp[Qg,he]
     have f12:(Qg c 12 r).e=12/\(Qg c 12 r).p=Qk c r:=by simp[Qg,he]
     have hcode2:IC.nth 1 k39=.blk 3 (.seq (IC.nth 0 b39) (IC.tl 1 b39)):=rfl;rw[hcode2,Qrc];generalize hB:(λ(x:XE) (env:Env) (H:ZG)=>match x with|.exit id=>if id=3 then K' .normal env H else K' (.exit id) env H|x=>K' x env H)=K''
     have hKn':∀ env H,K'' .normal env H=K' .normal env H:=λenv H=>by rw[<-hB]
     have hKp':∀ x env H,K'' (.panic x) env H=K' (.panic x) env H:=λx env H=>by rw[<-hB]
     clear hB;have rest:∀ (env:Env) (G:ZG),QeM c r=true->env.get 0=rp j->env.get 2=rp H.length->env.get 3=rp (H.length+1) ->
      X Tryz.prog N Qf (IC.tl 1 b39) env (H.set j (pdO c r)++rL H.length nm pl vs l G) K'':=by
      intro env G hb h0 h2 h3;simp -implicitDefEqProofs[IC.tl,b39,k39,Qd4,IC.nth,h0,h3,rp,rL,Qaq];by_cases h100:l.length=100
      . have h100':(l.length:Int)=100:=by omega
        simp -implicitDefEqProofs[h100'];refine Qc (by simpa[rp,Qaq]using h79 _ 12) ?_;simp -implicitDefEqProofs;rw[hKp',hKp];have:=bad (Qg c 12 r) (by rw[f12.1]; decide) (by rw[hfe,Zo ⟨h100,hb⟩]; exact QjP hst _ (by rw[f12.1]; decide));rw[f12.1,f12.2]at this;exact this _ _ (Qw.of_set (Qw.refl _ _))
      . have h100':¬ (l.length:Int)=100:=by omega
        rw[Zn (λh=>h100 h.1)]at hfe;rw[hfe]at bad hr;simp -implicitDefEqProofs[h100'];generalize Q8 c F r=x at h94 k1 k2 k3 bad hr;refine Qaf (by simpa[rp]using h94 _) (λhe1 => ?_) (λhe1 H' hk => ?_)
        . rw[QaP hj];simp -implicitDefEqProofs[h3,rp,Qfz,Qdu,Qa8 Qb.c_len];refine⟨by omega,by omega,?_⟩;rw[hKn',hKn];have k3':=k3 he1;refine LI.cong ?_ (ih (l++[x.1]) x.2 (G++[⟨x.1.c,78,0,true⟩]) _ (by omega) (by simp; omega) hr k1 he1 ?_ ?_ ?_)
          . simp[rL,Qaq,Qdu,Qil,rws]
          all_goals simp[h0,h2,h3,rp]
        . simp -implicitDefEqProofs;rw[hKp',hKp];exact bad _ he1 rfl _ _ hk.of_set
     generalize IC.tl 1 b39=t1 at rest ⊢;simp -implicitDefEqProofs[IC.nth,b39,k39,Qd4,h0,rp,rL,Qaq];refine Qc (by simpa[rp,Qaq]using h92 _) ?_;by_cases hf:QU c r=true
     . simp -implicitDefEqProofs[h0,rp,hf];refine Qcm _ _ _ _ ?_;simp -implicitDefEqProofs[hf];refine Xc rfl (rest _ G (by simp[QeM,hf]) ?_ ?_ ?_);all_goals simp[h0,h2,h3,rp]
     . rw[Vk]at hf;have h93:=Qfa (QbR hj (pdO c r) (zR::Qaq H.length nm pl vs.length l.length::Qdy vs::Qdu l::(G++[⟨[st (B [100,101,97,108]),st (B [116,117,114,110]),st (B [101,110,100])],9,0,true⟩]))) (x:=.own (H.length+(G.length+4)) 0 3 1 0) (l:=[[100,101,97,108],[116,117,114,110],[101,110,100]]) (by
        have:=IsS.own1 (H:=H.set j (pdO c r)) (L:=zR::Qaq H.length nm pl vs.length l.length::Qdy vs::Qdu l::(G++[⟨[st (B [100,101,97,108]),st (B [116,117,114,110]),st (B [101,110,100])],9,0,true⟩])) (k:=G.length+4) (T:=9) (ver:=0) (n:=3) (l:=[[100,101,97,108],[116,117,114,110],[101,110,100]]) (by simp[wds]) rfl;simpa using this) (by simp)
       rw[isB hn he]at h93;have hbe:QeM c r=(Qd c [100,101,97,108] r||Qd c [116,117,114,110] r||Qd c [101,110,100] r):=by unfold QeM; rw[hf]; simp
       rw[<-hbe]at h93;simp -implicitDefEqProofs[h0,rp,hf];refine QZ (r:=bl (QeM c r)) (λ_=>by simpa[rp,Qaq,SV.strip]using h93) ?_
       cases hb:QeM c r with
       |true =>
        simp -implicitDefEqProofs[hf];refine Xc ?_ (rest _ (G++[⟨[st (B [100,101,97,108]),st (B [116,117,114,110]),st (B [101,110,100])],9,0,true⟩]) hb ?_ ?_ ?_)
        . simp[rL,Qaq]
        all_goals simp[h0,h2,h3,rp]
       |false =>
        simp -implicitDefEqProofs[h0,rp,hf];refine Qc (by simpa[rp,Qaq]using h79 _ 11) ?_;simp -implicitDefEqProofs;rw[hKp',hKp];have:=bad (Qg c 11 r) (by rw[f11.1]; decide) (by rw[hfe,Zn (by simp[hb])]; exact hsn hb);rw[f11.1,f11.2]at this;exact this _ _ (Qw.of_set (Qw.refl _ _))
    generalize IC.nth 1 k39=B1 at body ⊢;by_cases hl0:l=[]
    . subst hl0;simp -implicitDefEqProofs[IC.nth,k39,Qd4,h0,h2,h3,rp,rL,Qaq,e3,pd1,pd0,Qgw];exact body _ (by simp[rp]) (by simp[rp]) (by simp[rp])
    . have hlt:=hcond.resolve_left hl0;have hlt':(r.a:Int)<c.ts.length:=by omega
      simp -implicitDefEqProofs[IC.nth,k39,Qd4,h0,h2,h3,rp,rL,Qaq,e3,pd1,pd0,Qgw,hl0,hlt',Qbc];exact body _ (by simp[rp]) (by simp[rp]) (by simp[rp])
  . rw[Zn (λh=>hcond h.2)]at hr;have hl0:l≠[]:=λh=>hcond (.inl h);have hge:¬ r.a<c.ts.length:=λh=>hcond (.inr h);have hge':¬ (r.a:Int)<c.ts.length:=by omega
    subst hr;generalize IC.nth 1 k39=B1;simp -implicitDefEqProofs[IC.nth,k39,Qd4,h0,h2,h3,rp,rL,Qaq,e3,pd1,pd0,Qgw,hl0,hge',Qbc];rw[hKe];refine hexit he hl0 (Nat.not_lt.1 hge) hg _ G ?_ ?_<;>simp[rp]
end
section
variable {H:ZG} {c:Cx} {r:Rd} {j:Nat} {F:Rd->Ex×Rd} {nm:ZE} {pl:Int}
theorem Qya {o:AO} (hcl:closed (H.set j o)) {vs:List Qm} {ss:List Qb} {z:AO} {G:ZG} :
 Cv H.length (.agg [st (B nm),i64 pl,.own (H.length+2) 0 vs.length 3 vs.length,.own (H.length+3) 0 ss.length 12 ss.length]) (H.set j o++(z::Qaq H.length nm pl vs.length ss.length::Qdy vs::Qdu ss::G)) (QbG ⟨nm,pl,vs,ss⟩) (H.set j o):=by
 refine Qq (n0:=H.length) 4 hcl (by simp) ?_;have e1:(rws Qm.c vs).take (vs.length*3)=rws Qm.c vs:=VB (by rw[Qa8 Qm.c_len]; exact Vb _);have e2:(rws Qb.c ss).take (ss.length*12)=rws Qb.c ss:=VB (by rw[Qa8 Qb.c_len]; exact Vb _);have m1:∀ L d,(rws Qm.c vs).map (SV.fz H.length [] L (d+1))=rws Qm.c vs:=λL d=>QcN _ _ _ _ (QeU (Qm.und _) vs);have m2:∀ L d,(rws Qb.c ss).map (SV.fz H.length [] L (d+1))=rws Qb.c ss:=λL d=>QcN _ _ _ _ (QeU (Qb.und _) ss);simp[QbG,QC.c,Qdy,Qdu,Qa8 Qm.c_len,Qa8 Qb.c_len,e1,e2,m1,m2]
theorem QBX (hj:j<H.length) (hcl:closed H) (he:r.e=0) {vs:List Qm} {ss:List Qb} {G:ZG} {env:Env} {res:QC×Rd} (hres:(⟨nm,pl,vs,ss⟩,r)=res) (h2:env.get 2=rp H.length) (h3:env.get 3=rp (H.length+1)) :
 X Tryz.prog Tryz.f39.ntmps Qf (IC.tl 9 i39) env (H.set j (pdO c r)++rL H.length nm pl vs ss G) (FinP H.length r39 (PdV c H j QbG res)):=by
 subst hres;simp[IC.tl,i39,r39,h2,h3,rp,rL,Qaq,zR];refine⟨_,_,PdV.got (x:=⟨nm,pl,vs,ss⟩) he rfl rfl rfl,?_⟩;have hc1:closed (H.set j (pdO c r)):=QbQ (c:=c) (a:=r.a) (v:=r.v) hcl;have:=Qya (nm:=nm) (pl:=pl) (vs:=vs) (ss:=ss) (z:=⟨[st (B nm),i64 pl,.own (H.length+2) 0 vs.length 3 vs.length,.own (H.length+3) 0 ss.length 12 ss.length],36,0,true⟩) (G:=G) hc1;simpa[Qaq]using this
theorem Qy7 (hn:Q4 c) (hN:QfZ c) (h20:c.ts.length<=20000) (hj:j<H.length) (hcl:closed H) {d:Nat} (hF:PdC c 32 [] F d) (hkF:Kp c d F) (hst:Qt F) (hnb:Nb c F) (hg:Gd c d r) (he:r.e=0) {G:ZG} {env:Env} {res:QC×Rd}
 (hres:(λv:List Qm×Rd=>(λs:List Qb×Rd=>((⟨nm,pl,v.1,s.1⟩,s.2):QC×Rd)) (QL c F (c.ts.length+1) [] v.2)) (Qab c c.ts.length [] r)=res)
 (h0:env.get 0=rp j) (h2:env.get 2=rp H.length) (h3:env.get 3=rp (H.length+1)) :
 X Tryz.prog Tryz.f39.ntmps Qf (IC.tl 7 i39) env (H.set j (pdO c r)++rL H.length nm pl [] [] G) (FinP H.length r39 (PdV c H j QbG res)):=by
 have tail:∀ (vs:List Qm) (ss:List Qb) (r:Rd) (G:ZG) (env:Env),r.e=0->(⟨nm,pl,vs,ss⟩,r)=res->env.get 2=rp H.length->env.get 3=rp (H.length+1)->_:=λvs ss r G env he hr h2 h3=>QBX (c:=c) (r:=r) (G:=G) hj hcl he hr h2 h3;rw[show IC.tl 7 i39=.seq (IC.nth 7 i39) (IC.tl 8 i39)from rfl,show IC.tl 8 i39=.seq (IC.nth 8 i39) (IC.tl 9 i39)from rfl];generalize IC.tl 9 i39=t9 at tail ⊢;have bad:∀ rf:Rd,rf.e≠0->res.2=rf->∀ H',Qw H [j] H'->PdV c H j QbG res (.pan (Q0 rf.e rf.p)) H':=by
  intro rf hf hs H' hk;rw[<-hs]at hf ⊢;exact PdV.pan hf hk
 dsimp only at hres;generalize hv:Qab c c.ts.length [] r=v at hres;simp[IC.nth,i39];refine QAf hn hN h20 hj (res:=v) (λhv0 hgv env G h0 h2 h3 => ?_) (λhv0 env H' hk => ?_) c.ts.length [] r G env (by omega) (by simp) hv hg he h0 h2 h3
 . simp;generalize hs:QL c F (c.ts.length+1) [] v.2=s at hres;refine QCx hn h20 hj hF hkF hst hnb (res:=s) (λhs0 _ _ hgs env G h2 h3 => ?_) (λhs0 env H' hk => ?_) (c.ts.length+1) [] v.2 G env (by omega) (by simp) hs hgv hv0 h0 h2 h3
   . simp;exact tail v.1 s.1 s.2 G env hs0 hres h2 h3
   . simp;exact⟨_,_,bad s.2 hs0 (by rw[<-hres]) _ hk,Qj⟩
 . simp;refine⟨_,_,bad v.2 hv0 ?_ _ hk,Qj⟩;rw[<-hres,QeX hv0]
def Qdf (c:Cx) (F:Rd->Ex×Rd) (r:Rd):QC×Rd :=
 let w:=QK c (t2 c [103,97,109,101] r)
 let n:=nmR c (t2 c [112,108,97,121,101,114,115] (t2 c [59] w.2))
 let v:=Qab c c.ts.length [] (t2 c [59] n.2)
 let s:=QL c F (c.ts.length+1) [] v.2
 (⟨w.1,n.1,v.1,s.1⟩,s.2)
set_option maxHeartbeats 2000000 in
theorem QyC (hn:Q4 c) (hN:QfZ c) (h20:c.ts.length<=20000) (hj:j<H.length) (hcl:closed H) {d:Nat} (hF:PdC c 32 [] F d) (hkF:Kp c d F) (hst:Qt F) (hnb:Nb c F) (hg:Gd c d r) (he:r.e=0) {env:Env} {res:QC×Rd}
 (hres:Qdf c F r=res) (h0:env.get 0=rp j) (h2:env.get 2=rp H.length) (h3:env.get 3=rp (H.length+1)) :
 X Tryz.prog Tryz.f39.ntmps Qf (IC.tl 2 i39) env (H.set j (pdO c r)++rL H.length [] 0 [] [] []) (FinP H.length r39 (PdV c H j QbG res)):=by
 have hct:c.ts.length<4611686018427387904:=by omega
 have tail:∀ (nm:ZE) (pl:Int) (r:Rd) (G:ZG) (env:Env),Gd c d r->r.e=0->_->env.get 0=rp j->env.get 2=rp H.length->env.get 3=rp (H.length+1)->_:=λnm pl r G env hg he hr h0 h2 h3=>Qy7 (nm:=nm) (pl:=pl) (r:=r) (G:=G) (res:=res) hn hN h20 hj hcl hF hkF hst hnb hg he hr h0 h2 h3;have bad:∀ rf:Rd,rf.e≠0->res.2=rf->∀ H',Qw H [j] H'->PdV c H j QbG res (.pan (Q0 rf.e rf.p)) H':=by
  intro rf hf hs H' hk;rw[<-hs]at hf ⊢;exact PdV.pan hf hk
 rw[show IC.tl 2 i39=.seq (IC.nth 2 i39) (IC.tl 3 i39)from rfl,show IC.tl 3 i39=.seq (IC.nth 3 i39) (IC.tl 4 i39)from rfl,show IC.tl 4 i39=.seq (IC.nth 4 i39) (IC.tl 5 i39)from rfl,show IC.tl 5 i39=.seq (IC.nth 5 i39) (IC.tl 6 i39)from rfl,show IC.tl 6 i39=.seq (IC.nth 6 i39) (IC.tl 7 i39)from rfl];generalize IC.tl 7 i39=t7 at tail ⊢;unfold Qdf at hres;dsimp only at hres;have hw:=Qd0 (H:=H) (j:=j) (r:=r) (L:=rL H.length [] 0 [] [] [⟨[st (B [103,97,109,101])],9,0,true⟩]) (q:=4) (n:=1) (T:=9) (ver:=0) (l:=[[103,97,109,101]]) hn hct hj (by simp[wds,rL]) rfl (by simp) (by intro s hs; simp at hs; subst hs; rfl) he hg.a;have hg1:=(QN (c:=c) (d:=d) [103,97,109,101] hg).1;simp[IC.nth,i39,h0,rp,rL,Qaq];refine Qaf (by simpa[rp,rL,Qaq]using hw) (λhe1 => ?_) (λhe1 H' hk => ?_)
 . rw[QaP hj];simp only[Qay]at he1 ⊢;generalize t2 c [103,97,109,101] r=r1 at hg1 he1 hres ⊢;have h88:=λL=>Qip (c:=c) (r:=r1) hj (by have:=hg1.a; omega) he1 L false;simp only[Qit]at h88;have hg2:=(Qcq (c:=c) (d:=d) r1 hg1).1;simp;generalize QK c r1=w at hg2 h88 hres;refine Qaf (by simpa[rp]using h88 _) (λhe2 => ?_) (λhe2 H' hk => ?_)
   . rw[QaP hj];simp[h0,h3,rp];have hw:=Qd0 (H:=H) (j:=j) (r:=w.2) (L:=rL H.length w.1 0 [] [] [⟨[st (B [103,97,109,101])],9,0,true⟩,⟨[st (B [59]),st (B [112,108,97,121,101,114,115])],9,0,true⟩]) (q:=5) (n:=2) (T:=9) (ver:=0) (l:=[[59],[112,108,97,121,101,114,115]]) hn hct hj (by simp[wds,rL]) rfl (by simp) (by intro s hs; simp at hs; rcases hs with rfl|rfl<;>rfl) he2 hg2.a
     have hg3:=(QN (c:=c) (d:=d) [112,108,97,121,101,114,115] (QN (c:=c) (d:=d) [59] hg2).1).1;refine Qaf (by simpa[rp,rL,Qaq]using hw) (λhe3 => ?_) (λhe3 H' hk => ?_)
     . rw[QaP hj];simp only[QhB]at he3 ⊢;generalize t2 c [112,108,97,121,101,114,115] (t2 c [59] w.2)=r3 at hg3 he3 hres ⊢;have h89:=λL=>Qs6 (c:=c) (r:=r3) hj (by have:=hg3.a; omega) he3 L false;simp only[QhE]at h89;have hg4:=(Qch (c:=c) (d:=d) r3 hg3).1;simp[h0,h3,rp];generalize nmR c r3=q at hg4 h89 hres;refine Qaf (by simpa[rp]using h89 _) (λhe4 => ?_) (λhe4 H' hk => ?_)
       . rw[QaP hj];simp[h0,h3,rp];have hw:=Qd0 (H:=H) (j:=j) (r:=q.2) (L:=rL H.length w.1 q.1 [] [] [⟨[st (B [103,97,109,101])],9,0,true⟩,⟨[st (B [59]),st (B [112,108,97,121,101,114,115])],9,0,true⟩,⟨[st (B [59])],9,0,true⟩]) (q:=6) (n:=1) (T:=9) (ver:=0) (l:=[[59]]) hn hct hj (by simp[wds,rL]) rfl (by simp) (by intro s hs; simp at hs; subst hs; rfl) he4 hg4.a;have hg5:=(QN (c:=c) (d:=d) [59] hg4).1;refine Qaf (by simpa[rp,rL,Qaq]using hw) (λhe5 => ?_) (λhe5 H' hk => ?_)
         . rw[QaP hj];simp only[Qay]at he5 ⊢;simp[h0,h3,rp];refine Xc ?_ (tail w.1 q.1 (t2 c [59] q.2) [⟨[st (B [103,97,109,101])],9,0,true⟩,⟨[st (B [59]),st (B [112,108,97,121,101,114,115])],9,0,true⟩,⟨[st (B [59])],9,0,true⟩] _ hg5 he5 hres ?_ ?_ ?_)
           . simp[rL,Qaq]
           all_goals simp[h0,h2,h3,rp]
         . simp;rw[Qay]at he5;refine⟨_,_,bad _ he5 ?_ _ hk.of_set,Qj⟩;rw[<-hres]; simp only[Qg0 he5,QeX he5]
       . simp;refine⟨_,_,bad _ he4 ?_ _ hk.of_set,Qj⟩;rw[<-hres]; simp only[Q9 _ he4,Qg0 he4,QeX he4]
     . simp;rw[QhB]at he3;refine⟨_,_,bad _ he3 ?_ _ hk.of_set,Qj⟩;rw[<-hres]; simp only[Qco _ he3,Q9 _ he3,Qg0 he3,QeX he3]
   . simp;refine⟨_,_,bad _ he2 ?_ _ hk.of_set,Qj⟩;rw[<-hres]; simp only[Q9 _ he2,Qco _ he2,Qg0 he2,QeX he2]
 . simp;rw[Qay]at he1;refine⟨_,_,bad _ he1 ?_ _ hk.of_set,Qj⟩;rw[<-hres]; simp only[Qek _ he1,Q9 _ he1,Qco _ he1,Qg0 he1,QeX he1]
theorem ok39 (hn:Q4 c) (hN:QfZ c) (h20:c.ts.length<=20000) {d:Nat} (hF:PdC c 32 [] F d) (hkF:Kp c d F) (hst:Qt F) (hnb:Nb c F) (ho:H[j]? = some (pdO c r)) (hg:Gd c d r) (he:r.e=0) :
 OkP Tryz.prog 39 [rp j] H (PdV c H j QbG (Qdf c F r)):=by
 have hj:=Ql ho;refine Qqv hm Tryz.func39 c39 (by simp[rp]) λhcl => ?_;have tail:∀ env:Env,env.get 0=rp j->env.get 2=rp H.length->env.get 3=rp (H.length+1)->_:=λenv h0 h2 h3=>QyC (r:=r) (res:=Qdf c F r) hn hN h20 hj hcl hF hkF hst hnb hg he rfl h0 h2 h3;rw[show i39=.seq (IC.nth 0 i39) (.seq (IC.nth 1 i39) (IC.tl 2 i39))from rfl];generalize IC.tl 2 i39=t2' at tail ⊢;refine WI.seq (Qb1 hm) ?_;simp[IC.nth,i39];refine WI.seq (Qb1 hm) ?_;simp;refine WI.tell (Qaw.own0 (j:=H.length+1) (p:=2) (o:=⟨[st (B []),i64 0,nl,nl],36,0,true⟩) (by simp) rfl rfl 75 3) ?_;refine WI.tell (Qaw.own0 (j:=H.length+1) (p:=3) (o:=⟨[st (B []),i64 0,.own (H.length+2) 0 0 3 0,nl],36,0,true⟩) (by simp) rfl rfl 78 12) ?_;refine WI.cong (H':=H.set j (pdO c r)++rL H.length [] 0 [] [] []) ?_ ?_
 . rw[QcZ ho];simp[rL,Qaq,zR,Qdy,Qdu,rws]
 . exact WI.of_X (Qb1 hm) (tail _ (by simp[rp]) (by simp[rp]) (by simp[rp]))
end
def Qlc (l:List Ex):Prop:=l.length<2147483648/\∀ e∈l,e.sm
structure Qn.sm (a:Qn):Prop where
 wh:Qlc a.wh
 len:a.sets.length<2147483648
 sets:∀ s∈a.sets,s.e.sm
structure Qb.sm (x:Qb):Prop where
 wt:Qlc x.wt
 seen:x.seen.length<2147483648
 who:Qlc x.who
 len:x.acts.length<2147483648
 acts:∀ a∈x.acts,a.sm
 pays:Qlc x.pays
structure QC.sm (r:QC):Prop where
 vars:r.vars.length<2147483648
 len:r.stages.length<2147483648
 stages:∀ x∈r.stages,x.sm
section
variable {H:ZG}
theorem Qf5 (n:Nat) (r:QC):SV.underL n r.c=true:=by
 simp[QC.c,SV.underL,SV.under,QeU (Qm.und _),QeU (Qb.und _)]
end
def rO (x:QC):AO:=⟨x.c,36,0,true⟩
section
variable {c:Cx} {F:Rd->Ex×Rd}
theorem QrO {d:Nat} (hkF:Kp c d F) (hst:Qt F):∀ (n:Nat) (l:List Qb) (r:Rd),c.ts.length<r.a+n->Gd c d r->(QL c F n l r).2.e=0->c.ts.length<=(QL c F n l r).2.a
 |0,l,r,hn,hg,_=>by have:=hg.a; omega
 |n+1,l,r,hn,hg,he=>by
  rw[QL]at he ⊢;by_cases hc:r.e=0/\(l=[]\/r.a<c.ts.length)
  . rw[Zo hc]at he ⊢;by_cases h1:(Q8 c F (QaW c l r)).2.e=0
    . have h2:QaW c l r=r:=by
       rw[QqQ]at h1 ⊢;split
       . rename_i h3;rw[Zo h3]at h1;have hb:(Qg c 12 r).e≠0:=by simp[Qg,hc.1]
         rw[QjP hst _ hb]at h1;exact absurd h1 hb
       . rfl
      rw[h2]at h1 he ⊢;have h3:=Qr2 (c:=c) hkF hg h1;exact QrO hkF hst n _ _ (by omega) (Qsa (c:=c) hkF r hg).1 he
    . rw[QeX h1]at he;exact absurd he h1
  . rw[Zn hc]at he ⊢;rcases Vs r.a c.ts.length with h|h
    . exact absurd ⟨he,.inr h⟩ hc
    . exact h
theorem QAo {d:Nat} (hkF:Kp c d F) (hst:Qt F) {r:Rd} (hg:Gd c d r) (he:(Qdf c F r).2.e=0):¬ (Qdf c F r).2.a<c.ts.length:=by
 unfold Qdf at he ⊢;dsimp only at he ⊢;have g1:=(Qcq _ (QN (c:=c) (d:=d) [103,97,109,101] hg).1).1;have g2:=(QN (c:=c) (d:=d) [112,108,97,121,101,114,115] (QN (c:=c) (d:=d) [59] g1).1).1;have g3:=(QN (c:=c) (d:=d) [59] (Qch _ g2).1).1;have g4:=(Qrl (c:=c) (d:=d) c.ts.length [] _ g3).1;exact Nat.not_lt.2 (QrO hkF hst _ _ _ (by omega) g4 he)
theorem QAu:QbU c F=if(Qdf c F ⟨0,0,0,0⟩).2.e≠0 then(Qeb,(Qdf c F ⟨0,0,0,0⟩).2.e,(Qdf c F ⟨0,0,0,0⟩).2.p)else((Qdf c F ⟨0,0,0,0⟩).1,0,0):=rfl
end
section
variable {H:ZG}
theorem QyD {f g:Nat} (hf:f<H.length) (hg:g<H.length):OkD Tryz.prog 86 [rp f,rp g] H none (λH'=>H'=H):=by
 refine Qkc hm Tryz.func86 c86 (by rfl) λhcl => ?_;simp -implicitDefEqProofs[QnF,i86,rp,rvD,SV.isIf,SV.ifNil];exact Qj
theorem QCc {f g:Nat} {c1 c2:ZH} (hf:H[f]? = some ⟨c1,36,0,true⟩) (hc1:c1.length=4) (hg:H[g]? = some ⟨c2,28,0,true⟩) (hc2:c2.length=2) (hne:f≠g) (e p:Int) :
 OkD Tryz.prog 86 [rp f,rp g] H (some (Q0 e p)) (λH'=>H'=(H.set f zR).set g ⟨[i64 e,i64 p],28,0,true⟩):=by
 have hj:=Ql hf;have hjg:=Ql hg;have e2:∀ (L:ZG) (h:AO->AO),Ab.setObj (H++L) f h=H.set f (h ⟨c1,36,0,true⟩)++L:=λL h=>by
  rw[Qb5 (o:=⟨c1,36,0,true⟩) (by rw[Vc hj]; exact hf),Vm _ _ hj]
 have hg':(H.set f zR)[g]? = some ⟨c2,28,0,true⟩:=by rw[Vf hne]; exact hg
 have e4:∀ (L:ZG) (h:AO->AO),Ab.setObj (H.set f zR++L) g h=(H.set f zR).set g (h ⟨c2,28,0,true⟩)++L:=λL h=>by
  rw[Qb5 (o:=⟨c2,28,0,true⟩) (by rw[Vc (by simpa using hjg)]; exact hg'),Vm _ _ (by simpa using hjg)]
 have e1:∀ L,Qo (H++L) f 0=c1:=λL=>Qav (o:=⟨c1,36,0,true⟩) (by rw[Vc hj]; exact hf) rfl;have e3:∀ L,Qo (H.set f zR++L) g 0=c2:=λL=>Qav (o:=⟨c2,28,0,true⟩) (by rw[Vc (by simpa using hjg)]; exact hg') rfl;have d1:List.drop 4 c1=[]:=VS (by omega);have d2:List.drop 2 c2=[]:=VS (by omega);simp only[zR]at e3 e4;refine Qkc hm Tryz.func86 c86 (by rfl) λhcl => ?_;simp -implicitDefEqProofs[QnF,i86,rp,rvD,SV.isIf,SV.ifNil,Q0];refine QeF (λ_=>Qlp e p) ?_;simp -implicitDefEqProofs[QE,e1,e2,e3,e4,hc1,hc2,d1,d2];have hc1':closed (H.set f zR):=by
  have:=Qfj hcl f (o:=zR) (by simp[zR,SV.underL,SV.under]);simpa using this
 have hc2':closed ((H.set f zR).set g ⟨[i64 e,i64 p],28,0,true⟩):=by
  have:=Qfj hc1' g (o:=⟨[i64 e,i64 p],28,0,true⟩) (by simp[SV.underL]);simpa using this
 refine⟨rfl,Qod (by simpa[Q0,QE]using Qlp e p),?_⟩;exact Qq 2 hc2' (by simp) rfl
theorem QrG (hcl:closed H) (e p:Int) (L:ZG):Cv H.length (.tup [.agg zR.cells,QE e p]) (H++L) (.tup [(QbG Qeb),QE e p]) H:=by
 refine Cv.le (Qq (n0:=H.length) (r1:=.tup [.agg [st (B []),i64 0,nl,nl],.agg [i64 e,i64 p]]) (r:=.tup [.agg [st (B []),i64 0,nl,nl],.agg [i64 e,i64 p]]) 3 hcl rfl (by simp)) ?_;exact QzJ e p
theorem QwB {q:QC×Int×Int} (hcl:closed H) (hq:q.1=Qeb) {env:Env} {H1:ZG} {c1 c2:ZH} (hf:H1[H.length]? = some ⟨c1,36,0,true⟩) (hc1:c1.length=4) (hg:H1[H.length+1]? = some ⟨c2,28,0,true⟩) (hc2:c2.length=2)
 (hp:∀ i,i<H.length->H1[i]? = H[i]?) (h4:env.get 4=rp H.length) (h5:env.get 5=rp (H.length+1)) :
 Qhi Tryz.prog H.length r38 (λo h=>o=.ret (.tup [QbG q.1,QE q.2.1 q.2.2])/\h=H) 86 [rp H.length,rp (H.length+1)] (.panic (Q0 q.2.1 q.2.2)) env H1:=by
 refine⟨_,QCc hf hc1 hg hc2 (by omega) _ _,?_⟩;rintro H4 rfl;have hlen:H.length+2<=H1.length:=by have:=Ql hg; omega
 obtain⟨L,hL⟩:∃ L,(H1.set H.length zR).set (H.length+1) ⟨[i64 q.2.1,i64 q.2.2],28,0,true⟩=H++zR::⟨[i64 q.2.1,i64 q.2.2],28,0,true⟩::L:=by
  refine⟨H1.drop (H.length+2),?_⟩;apply V5;intro i;rcases Yw i H.length with h|h|h
  . rw[Vf (by omega),Vf (by omega),hp i h,Vc h]
  . subst h;rw[Vf (by omega),Vo (by omega),Vl (by omega)];simp
  . by_cases h2:i=H.length+1
    . subst h2;rw[Vo (by simp; omega),Vl (by omega)];simp
    . rw[Vf (by omega),Vf (by omega),Vl (by omega)];obtain⟨k,rfl⟩:∃ k,i=H.length+2+k:=⟨i-(H.length+2),by omega⟩;have e:H.length+2+k-H.length=k+1+1:=by omega
      rw[e,YJ,YJ,VW]
 rw[hL];have e1:Qo (H++zR::⟨[i64 q.2.1,i64 q.2.2],28,0,true⟩::L) H.length 0=zR.cells:=Qav (o:=zR) (by simp) rfl;have e2:Qo (H++zR::⟨[i64 q.2.1,i64 q.2.2],28,0,true⟩::L) (H.length+1) 0=[i64 q.2.1,i64 q.2.2]:=Qav (o:=⟨[i64 q.2.1,i64 q.2.2],28,0,true⟩) (by simp) rfl;refine⟨?_,_,H,⟨rfl,rfl⟩,?_⟩
 . intro s hs;simp only[r38,Vd,Vu,Zt]at hs;rcases hs with rfl|rfl
   . simp[RS.side,h4,rp,zR]
   . simp[RS.side,h5,rp,e2]
 . have hr:Qa7 env (H++zR::⟨[i64 q.2.1,i64 q.2.2],28,0,true⟩::L) r38=.tup [.agg zR.cells,QE q.2.1 q.2.2]:=by
    simp[Qa7,r38,RS.ev,h4,h5,rp,zR,QE]
   rw[hr,hq];exact QrG hcl _ _ _
theorem Qei (x:QC):x.c.length=4:=rfl
theorem QhF (x:QC):List.drop 4 x.c=[]:=rfl
theorem Qey (x:QC):QD x.c:=by
 intro s hs;simp[QC.c]at hs;rcases hs with rfl|rfl|rfl|rfl<;>rfl
theorem Qex (x:QC):List.take 4 x.c=x.c:=rfl
theorem Qt6 {x:QC} (hcl:closed H) {env:Env} {L:ZG} (h4:env.get 4=rp H.length) (h5:env.get 5=rp (H.length+1)) :
 Qhi Tryz.prog H.length r38 (λo h=>o=.ret (.tup [.agg x.c,.agg [i64 0,i64 0]])/\h=H) 86 [rp H.length,rp (H.length+1)] .ret env (H++rO x::⟨[i64 0,i64 0],28,0,true⟩::L):=by
 refine⟨_,QyD (by simp) (by simp),?_⟩;rintro H4 rfl;have e1:Qo (H++rO x::⟨[i64 0,i64 0],28,0,true⟩::L) H.length 0=x.c:=Qav (o:=rO x) (by simp) rfl;have e2:Qo (H++rO x::⟨[i64 0,i64 0],28,0,true⟩::L) (H.length+1) 0=[i64 0,i64 0]:=Qav (o:=⟨[i64 0,i64 0],28,0,true⟩) (by simp) rfl;refine⟨?_,_,H,⟨rfl,rfl⟩,?_⟩
 . intro s hs;simp only[r38,Vd,Vu,Zt]at hs;rcases hs with rfl|rfl
   . simp[RS.side,h4,rp,e1,Qei]
   . simp[RS.side,h5,rp,e2]
 . have hr:Qa7 env (H++rO x::⟨[i64 0,i64 0],28,0,true⟩::L) r38=.tup [.agg x.c,.agg [i64 0,i64 0]]:=by
    simp[Qa7,r38,RS.ev,h4,h5,rp,e1,e2,Qex]
   rw[hr];refine Qq 3 hcl rfl (Qdh ?_);simp[SV.under,SV.underL,Qf5]
theorem ok38 {l:ZE} (hl:l.length<=20000):Ok Tryz.prog 38 [st (B l),.fn (.func 39) [] []] H (.ret (.tup [QbG (QG l).1,QE (QG l).2.1 (QG l).2.2])) H:=by
 refine OkP.toOk (QsC hm Tryz.func38 c38 (by rfl) λhcl => ?_);have hT:=tokT l;have hN:=tokN l;have hlen:=Qnw l;have h26:=λH=>Ql9 (H:=H) (l:=l) (by omega);have hex:QG l=if(Qi l).2.1≠0 then(Qeb,(Qi l).2)else QbU ⟨(Qi l).1,l.length⟩ (orT ⟨(Qi l).1,l.length⟩):=rfl;rw[hex];generalize Qi l=s at hlen h26 hT hN ⊢;obtain⟨ts,fe,fp⟩:=s;simp only at hlen h26 hT hN ⊢;simp -implicitDefEqProofs[XL,i38p,Qro,QsX,QtU];refine Qc (h26 _) ?_;simp -implicitDefEqProofs[QE,Qbc];by_cases hs:fe=0
 . subst hs;simp -implicitDefEqProofs[i38s,i38f,XL,Qhe,i38];have hlc:ts.length<4611686018427387904:=by omega
   have hg:Gd ⟨ts,l.length⟩ 40 ⟨0,0,0,0⟩:=⟨V3 _,.inr rfl⟩;have hor:PdC ⟨ts,l.length⟩ 32 [] (orT ⟨ts,l.length⟩) 40:=(QpO hT hlc 40 (by omega)).2.2;have hkF:Kp ⟨ts,l.length⟩ 40 (orT ⟨ts,l.length⟩):=(QlL ⟨ts,l.length⟩ 40 (by omega)).2.2;have hst:Qt (orT ⟨ts,l.length⟩):=QiZ _ _;have hnb:Nb ⟨ts,l.length⟩ (orT ⟨ts,l.length⟩):=λr he hb=>QCe he hb 40;refine⟨86,_,⟨rfl,rfl⟩,Qc ok78 ?_⟩;simp -implicitDefEqProofs[Qkb];have hG:∀ L,(H++(zR::⟨[i64 0,i64 fp],28,0,true⟩::pdO ⟨ts,l.length⟩ ⟨0,0,0,0⟩::L))[H.length+2]? = some (pdO ⟨ts,l.length⟩ ⟨0,0,0,0⟩):=λL=>by simp
   have hc:=ok39 (c:=⟨ts,l.length⟩) hT.num hN (show ts.length<=20000 by omega) hor hkF hst hnb (hG []) hg rfl;have hend:=QAo (c:=⟨ts,l.length⟩) hkF hst hg;refine⟨⟨rfl,rfl,rfl,rfl,rfl⟩,Q5 (Pt:=PdV ⟨ts,l.length⟩ (H++[zR,⟨[i64 0,i64 fp],28,0,true⟩,pdO ⟨ts,l.length⟩ ⟨0,0,0,0⟩]) (H.length+2) QbG (Qdf ⟨ts,l.length⟩ (orT ⟨ts,l.length⟩) ⟨0,0,0,0⟩)) (by simpa[rp,zR,pdO,pdC,Qbc]using hc) ?_⟩;intro o H' hp;unfold PdV at hp;rw[QAu];generalize Qdf ⟨ts,l.length⟩ (orT ⟨ts,l.length⟩) ⟨0,0,0,0⟩=x at hp hend ⊢;obtain⟨ex,r⟩:=x;dsimp only at hp hend ⊢;by_cases he:r.e=0
   . rw[Zo he]at hp;obtain⟨rfl,rfl⟩:=hp;have hset:(H++[zR,⟨[i64 0,i64 fp],28,0,true⟩,pdO ⟨ts,l.length⟩ ⟨0,0,0,0⟩]).set (H.length+2) (pdO ⟨ts,l.length⟩ r)=H++[zR,⟨[i64 0,i64 fp],28,0,true⟩,pdO ⟨ts,l.length⟩ r]:=by
      rw[Yf _ _ (by omega)]; simp
     rw[hset];have hlt:=hend he;rw[Zn (by simp[he])];have hck:=Zv (Qey ex);simp -implicitDefEqProofs[QbG,Qei,Qex,QhF,hck,zR,pdO,pdC,Qbc,hlt];exact Qt6 hcl (by simp[rp]) (by simp[rp])
   . rw[Zn he]at hp;obtain⟨rfl,hk⟩:=hp;rw[Zo he];simp -implicitDefEqProofs;have hk1:∀ i,i<H.length+2->H'[i]? = (H++[zR,⟨[i64 0,i64 fp],28,0,true⟩,pdO ⟨ts,l.length⟩ ⟨0,0,0,0⟩])[i]? := λi hi=>hk.at_ i (by simp; omega) (by simp; omega);exact QwB (q:=(Qeb,r.e,r.p)) hcl rfl (c1:=zR.cells) (c2:=[i64 0,i64 fp]) (by rw[hk1 _ (by omega)]; simp[zR]) rfl (by rw[hk1 _ (by omega)]; simp) rfl (λi hi=>by rw[hk1 i (by omega),Vc hi]) (by simp[rp]) (by simp[rp])
 . simp -implicitDefEqProofs[hs,XL,Qhe,r38];simp only[Zn hs];exact⟨rfl,_,_,⟨rfl,rfl⟩,by simpa[zR,QE]using QrG hcl fe fp _⟩
theorem QgW {l:ZE} (hl:l.length<=20000):Ok Tryz.prog 14 [st (B l)] H (.ret (.tup [QbG (QG l).1,QE (QG l).2.1 (QG l).2.2])) H:=by
 have h38:=λH=>ok38 (H:=H) hl;generalize QG l=q at h38 ⊢;refine Qz hm Tryz.func14 c14 (by simp) λhcl => ?_;simp -implicitDefEqProofs[i14,r14];refine Qc (h38 _) ?_;have hck:=Zv (Qey q.1);simp -implicitDefEqProofs[QbG,QE,Qei,Qex,hck];refine Qq 3 hcl rfl (Qdh ?_);simp[SV.under,SV.underL,Qf5]
end
theorem Qew {a b:ZE} {p:Nat}:cAt (a++b) (a.length+p)=cAt b p:=by
 unfold cAt;rw[Vz,Vz,Vl (by omega)];simp
theorem Qgx {a b:ZE} {p:Nat} (h:p<a.length):cAt (a++b) p=cAt a p:=by
 unfold cAt;rw[Vz,Vz,Vc h]
theorem Qr7 {a b:ZE} {cs:List Int}:∀ (n e:Nat),Qb0 (a++b) cs n (a.length+e)=a.length+Qb0 b cs n e
 |0,e=>rfl
 |n+1,e=>by
  simp only[Qb0,Qew,Vj];by_cases h:e<b.length/\cAt b e∈cs
  . rw[Zo ⟨by omega,h.2⟩,Zo h,Ye]; exact Qr7 n (e+1)
  . rw[Zn (λh2=>h ⟨by omega,h2.2⟩),Zn h]
theorem QkI {a b:ZE} {cs:List Int} {e:Nat}:Qas (a++b) cs (a.length+e)=a.length+Qas b cs e:=by
 unfold Qas;rw[show(a++b).length-(a.length+e)=b.length-e by simp; omega];exact Qr7 _ _
theorem QkK {a b:ZE} {e:Nat}:(a++b).drop (a.length+e)=b.drop e:=by
 rw[YH,VS (by omega)];simp
theorem QsA {a b:ZE} {p q:Nat}:cut (a++b) (a.length+p) (a.length+q)=cut b p q:=by
 unfold cut;rw[QkK,show a.length+q-(a.length+p)=q-p by omega]
theorem QlG {a b:ZE} {p:Nat}:(a++b).getD (a.length+p) 0=b.getD p 0:=by
 rw[Vz,Vz,Vl (by omega)];simp
theorem Qow {a b:ZE} {e:Nat}:Qba (a++b) (a.length+e)=a.length+Qba b e:=by
 unfold Qba;rw[QkK,QlG];split
 . omega
 . split<;>omega
theorem QzT {a b tx:ZE} {k:Int} {p:Nat} (h:p=0->a=[]\/cAt a (a.length-1)≠3):whE (a++b) k tx (a.length+p)=whE b k tx p:=by
 unfold whE;have e:(tx=[]\/k=1/\0<a.length+p/\cAt (a++b) (a.length+p-1)=3)↔(tx=[]\/k=1/\0<p/\cAt b (p-1)=3):=by
  by_cases hp:p=0
  . subst hp;rcases h rfl with h1|h1
    . subst h1; simp
    . by_cases ha:a.length=0
      . have:a=[]:=VJ ha;subst this; simp
      . have e1:cAt (a++b) (a.length+0-1)=cAt a (a.length-1):=Qgx (by omega);rw[e1];simp[h1]
  . have e1:a.length+p-1=a.length+(p-1):=by omega
    rw[e1,Qew];have:0<a.length+p↔0<p:=by omega
    rw[this]
 simp only[e]
def Tok.mv (t:Tok) (d:Nat):Tok:={ t with p:=d+t.p }
def Stp.mv (d:Nat):Stp->Stp
 |.skip q=>.skip (d+q)
 |.tok t q=>.tok (t.mv d) (d+q)
 |.flt e=>.flt e
theorem Qlk {a b:ZE} {k:Int} {p q:Nat} (h:p=0->a=[]\/cAt a (a.length-1)≠3):QV (a++b) (a.length+p) k (a.length+q)=(QV b p k q).mv a.length:=by
 unfold QV;rw[QsA,QzT h];split<;>rfl
theorem Qpq {a b:ZE} {p:Nat} (h:p=0->a=[]\/cAt a (a.length-1)≠3):Qx (a++b) (a.length+p)=(Qx b p).mv a.length:=by
 unfold Qx;rw[Qew,QkI,QkI,Qow,QlG,QkK,Qlk h,Qlk h,Qlk h,Qlk h];split
 . simp only[Stp.mv]; rw[Ye]
 . split
   . rfl
   . split
     . rfl
     . split
       . rfl
       . split
         . simp only[Stp.mv]; rw[Ye]
         . rfl
def Ev.mv (d:Nat):Ev->Ev
 |.tok t=>.tok (t.mv d)
 |.flt e p=>.flt e (d+p)
theorem Qjk {a b:ZE}:∀ (n p:Nat),(p=0->a=[]\/cAt a (a.length-1)≠3)->evs (a++b) n (a.length+p)=(evs b n p).map (Ev.mv a.length)
 |0,p,_=>rfl
 |n+1,p,h=>by
  simp only[evs,Vj];by_cases hp:p<b.length
  . rw[Zo (by omega),Zo hp,Qpq h]
    cases hs:Qx b p with
    |skip q =>
     simp only[Stp.mv];refine Qjk n q λh0 => ?_;have:p<q:=by
      unfold Qx at hs;have key:∀ k q',QV b p k q'≠.skip q:=by intro k q' h; unfold QV at h; split at h<;>cases h
      split at hs
      . cases hs; omega
      . split at hs
        . exact absurd hs (key _ _)
        . split at hs
          . exact absurd hs (key _ _)
          . split at hs
            . exact absurd hs (key _ _)
            . split at hs
              . rename_i h35; cases hs; have:=Qnm hp h35; omega
              . exact absurd hs (key _ _)
     omega
    |tok t q =>
     simp only[Stp.mv,Vg,Ev.mv];rw[Qjk n q λh0=>by have:=mkq hs hp; omega]
    |flt e=>rfl
  . rw[Zn (by omega),Zn hp]; rfl
theorem Qmm {l:ZE} {p q:Nat} (hp:p<l.length) (hs:Qx l p=.skip q):p<q/\q<=l.length:=by
 unfold Qx at hs;have key:∀ k q',QV l p k q'≠.skip q:=by intro k q' h; unfold QV at h; split at h<;>cases h
 split at hs
 . cases hs; omega
 . split at hs
   . exact absurd hs (key _ _)
   . split at hs
     . exact absurd hs (key _ _)
     . split at hs
       . exact absurd hs (key _ _)
       . split at hs
         . rename_i h35; cases hs
           have h1:=Qnm hp h35;have h2:=QlP (l.drop p);simp at h2; omega
         . exact absurd hs (key _ _)
theorem QhP {l:ZE}:∀ (n m p:Nat),l.length<=p+n->l.length<=p+m->evs l n p=evs l m p
 |0,0,p,_,_=>rfl
 |0,m+1,p,h,_=>by simp only[evs]; rw[Zn (by omega)]
 |n+1,0,p,_,h=>by simp only[evs]; rw[Zn (by omega)]
 |n+1,m+1,p,h1,h2=>by
  simp only[evs];split
  . rename_i hp
    cases hs:Qx l p with
    |skip q=>have:=Qmm hp hs; exact QhP n m q (by omega) (by omega)
    |tok t q=>have:=mkq hs hp; simp only; rw[QhP n m q (by omega) (by omega)]
    |flt e=>rfl
  . rfl
def Wht (c:UInt8):Prop:=c=10\/c=32
section
variable {a b:ZE} {c:UInt8}
theorem Qo6 (hc:Wht c):cAt (a++c::b) a.length=1:=by
 have h:cAt (a++c::b) (a.length+0)=cAt (c::b) 0:=Qew;rw[V6]at h;rw[h];rcases hc with rfl|rfl<;>rfl
theorem QrZ (hc:Wht c) {cs:List Int} (h1:(1:Int)∉cs):∀ (n m e:Nat),e<=a.length->a.length<=e+n->a.length<e+m->Qb0 (a++c::b) cs m e=Qb0 a cs n e
 |n,0,e,h,h2,h3=>by omega
 |0,m+1,e,h,h2,h3=>by
  have e:e=a.length:=by omega
  subst e;simp only[Qb0];rw[Zn (λh=>h1 (by rw[<-Qo6 (a:=a) (b:=b) hc]; exact h.2))]
 |n+1,m+1,e,h,h2,h3=>by
  simp only[Qb0];by_cases he:e<a.length
  . rw[Qgx he];by_cases h4:cAt a e∈cs
    . rw[Zo ⟨by simp; omega,h4⟩,Zo ⟨he,h4⟩];exact QrZ hc h1 n m (e+1) (by omega) (by omega) (by omega)
    . rw[Zn (λh=>h4 h.2),Zn (λh=>h4 h.2)]
  . have e:e=a.length:=by omega
    subst e;rw[Zn (λh=>h1 (by rw[<-Qo6 (a:=a) (b:=b) hc]; exact h.2)),Zn (λh=>he h.1)]
theorem QrM (hc:Wht c) {cs:List Int} (h1:(1:Int)∉cs) {e:Nat} (h:e<=a.length):Qas (a++c::b) cs e=Qas a cs e :=
 QrZ hc h1 _ _ e h (by omega) (by simp; omega)
theorem QnU {e:Nat} (h:e<=a.length):(a++c::b).drop e=a.drop e++c::b:=by
 rw[YY h]
theorem Qu9 {p q:Nat} (hp:p<=a.length) (hq:q<=a.length):cut (a++c::b) p q=cut a p q:=by
 unfold cut;rw[QnU hp,YX (by simp; omega)]
theorem QzX (hc:Wht c) {r:ZE} (h:r≠[]):QdO (r++c::b)=QdO r:=by
 unfold QdO;have h1:∀ x:UInt8,Wht c->x∈[61,46]->(x==c)=false:=by
  intro x hc hx;simp at hx;rcases hc with rfl|rfl<;>rcases hx with rfl|rfl<;>rfl
 match r,h with
 |[x],_ =>
  simp only[QaH,List.any_cons,List.any_nil,List.isPrefixOf,Vr,VA];rw[h1 61 hc (by simp),h1 46 hc (by simp)];simp
 |x::y::r,_=>simp[QaH,List.isPrefixOf]
theorem QoL {e:Nat} (h:e<a.length):(a++c::b).getD e 0=a.getD e 0:=by
 rw[Vz,Vz,Vc h]
theorem QxK (hc:Wht c) {e:Nat} (h:e<a.length):Qba (a++c::b) e=Qba a e:=by
 unfold Qba;rw[QnU (by omega),QoL h,QzX hc (by intro h2; have:=Zp List.length h2; simp at this; omega)]
theorem QCs {tx:ZE} {k:Int} {p:Nat} (h:p<a.length):whE (a++c::b) k tx p=whE a k tx p:=by
 unfold whE;by_cases hp:p=0
 . subst hp; simp
 . rw[Qgx (show p-1<a.length by omega)]
theorem Qjb {k:Int} {p q:Nat} (h:p<a.length) (hq:q<=a.length):QV (a++c::b) p k q=QV a p k q:=by
 unfold QV;rw[Qu9 (by omega) hq,QCs h]
theorem Qo7:∀ {a b:ZE},QbM (a++10::b)=QbM a
 |[],b=>rfl
 |x::r,b=>by
  simp only[Vr,QbM];split
  . rfl
  . rw[Qo7]
theorem QrF (hc:Wht c) {p:Nat} (h:p<a.length) (hn:c=10\/a.getD p 0≠35):Qx (a++c::b) p=Qx a p:=by
 have r1:=QrM (b:=b) hc (cs:=[2,3]) (by decide) (show p<=a.length by omega);have r2:=QrM (b:=b) hc (cs:=[3]) (by decide) (show p<=a.length by omega);have r3:=QxK (b:=b) hc h;unfold Qx;rw[Qgx h,r1,r2,r3,QoL h,QnU (by omega),Qjb h (Qg6 (by omega)),Qjb h (Qg6 (by omega)),Qjb h (Qjn h).2,Qjb h (by omega)];rcases hn with rfl|hn
 . rw[Qo7]
 . simp only[Zn hn]
def bad:List Ev->Bool
 |[]=>false
 |.tok _::r=>bad r
 |.flt _ _::_=>true
theorem Qm0:∀ (n m p:Nat),p<=a.length->a.length<=p+n->(a++10::b).length<=p+m ->
 evs (a++10::b) m p=evs a n p++bif bad (evs a n p)then []else evs (a++10::b) m a.length
 |n,0,p,h,h2,h3=>by simp at h3; omega
 |0,m+1,p,h,h2,h3=>by
  have e:p=a.length:=by omega
  subst e;simp[evs,bad]
 |n+1,m+1,p,h,h2,h3=>by
  by_cases hp:p<a.length
  . have hs:Qx (a++10::b) p=Qx a p:=QrF (.inl rfl) hp (.inl rfl);have hl:p<(a++10::b).length:=by simp; omega
    have hf:evs (a++10::b) (m+1) a.length=evs (a++10::b) m a.length:=QhP _ _ _ (by simp at h3 ⊢; omega) (by simp at h3 ⊢; omega);rw[hf]
    cases hst:Qx a p with
    |skip q =>
     have:=Qmm hp hst;have e1:evs a (n+1) p=evs a n q:=by simp only[evs]; rw[Zo hp,hst]
     have e2:evs (a++10::b) (m+1) p=evs (a++10::b) m q:=by simp only[evs]; rw[Zo hl,hs,hst]
     rw[e1,e2];exact Qm0 n m q (by omega) (by omega) (by simp at h3 ⊢; omega)
    |tok t q =>
     have:=mkq hst hp;have e1:evs a (n+1) p=.tok t::evs a n q:=by simp only[evs]; rw[Zo hp,hst]
     have e2:evs (a++10::b) (m+1) p=.tok t::evs (a++10::b) m q:=by simp only[evs]; rw[Zo hl,hs,hst]
     rw[e1,e2];simp only[Vr,bad];rw[Qm0 n m q (by omega) (by omega) (by simp at h3 ⊢; omega)]
    |flt e =>
     have e1:evs a (n+1) p=[.flt e p]:=by simp only[evs]; rw[Zo hp,hst]
     have e2:evs (a++10::b) (m+1) p=[.flt e p]:=by simp only[evs]; rw[Zo hl,hs,hst]
     rw[e1,e2];simp[bad]
  . have e:p=a.length:=by omega
    subst e;have:evs a (n+1) a.length=[]:=by simp only[evs]; rw[Zn (by omega)]
    rw[this];simp[bad]
end
def Qgj:List Ev->Int×Int
 |[]=>(0,0)
 |.tok _::r=>Qgj r
 |.flt e p::_=>(e,p)
theorem QoC:∀ (es:List Ev) (i:Nat),i+(QY es).length<=5000->QbY i es=Qgj es
 |[],i,_=>rfl
 |.tok t::r,i,h=>by
  simp only[QY,Vh]at h;simp only[QbY,Qgj];rw[Zn (by omega)];exact QoC r (i+1) (by omega)
 |.flt e p::_,i,_=>rfl
theorem Qtp:∀ {es:List Ev},bad es=false->Qgj es=(0,0)
 |[],_=>rfl
 |.tok t::r,h=>Qtp (es:=r) h
 |.flt e p::_,h=>by simp[bad]at h
theorem QlH:∀ {es:List Ev},(∀ e p,Ev.flt e p∈es->e≠0)->bad es=true->(Qgj es).1≠0
 |[],_,h=>by simp[bad]at h
 |.tok t::r,hm,h=>QlH (es:=r) (λe p h=>hm e p (VL _ h)) h
 |.flt e p::_,hm,_=>hm e p (by simp)
theorem Qjc {l:ZE} (h:l.length<=20000) (hl:(QY (QB l)).length<=5000):Qi l=bif bad (QB l)then([],Qgj (QB l))else(QY (QB l),0,0):=by
 have hf:=QoC (QB l) 0 (by omega);unfold Qi;rw[Zn (by omega),hf]
 cases hb:bad (QB l)with
 |true =>
  have hne:(Qgj (QB l)).1≠0:=QlH (λe p h=>QiL l.length 0 h) hb;rw[Zn hne]; rfl
 |false =>
  rw[Qtp hb]; rfl
theorem Qij (d:Nat):∀ es:List Ev,QY (es.map (Ev.mv d))=(QY es).map (Tok.mv · d)
 |[]=>rfl
 |.tok t::r=>by simp only[Vg,Ev.mv,QY,Qij d r]
 |.flt e p::r=>by simp only[Vg,Ev.mv,QY,Qij d r]
theorem QhS (d:Nat):∀ es:List Ev,bad (es.map (Ev.mv d))=bad es
 |[]=>rfl
 |.tok t::r=>by simp only[Vg,Ev.mv,bad,QhS d r]
 |.flt e p::r=>rfl
theorem QoF:∀ a b:List Ev,bad (a++b)=(bad a||bad b)
 |[],b=>rfl
 |.tok t::a,b=>by simp only[Vr,bad,QoF a b]
 |.flt e p::a,b=>rfl
section
variable {a b:ZE}
theorem QnX {c:UInt8} (hc:cls c.toNat=1) (m:Nat) (hm:b.length<=m):evs (a++c::b) (m+1) a.length=(QB b).map (Ev.mv (a.length+1)):=by
 have h1:cAt (a++c::b) a.length=1:=by
  have h:cAt (a++c::b) (a.length+0)=cAt (c::b) 0:=Qew;rw[V6]at h;rw[h]; exact hc
 have hs:Qx (a++c::b) a.length=.skip (a.length+1):=by unfold Qx; rw[Zo h1]
 have e1:evs (a++c::b) (m+1) a.length=evs (a++c::b) m (a.length+1):=by simp only[evs]; rw[Zo (by simp),hs]
 have e2:=Qjk (a:=a++[c]) (b:=b) m 0 (λ_=>.inr (by
  have:cAt (a++[c]) ((a++[c]).length-1)=cAt [c] 0:=by
   have h:cAt (a++[c]) (a.length+0)=cAt [c] 0:=Qew;rw[<-h]; simp
  rw[this];have h3:cAt [c] 0=cls c.toNat:=rfl;rw[h3,hc]; decide))
 have e3:(a++[c])++b=a++c::b:=by simp
 have e4:(a++[c]).length+0=a.length+1:=by simp
 rw[e3,e4]at e2;rw[e1,e2,show(a++[c]).length=a.length+1 by simp];unfold QB;rw[QhP m b.length 0 (by omega) (by omega)]
theorem QjN:QB (a++10::b)=QB a++bif bad (QB a)then []else(QB b).map (Ev.mv (a.length+1)):=by
 have h:=Qm0 (a:=a) (b:=b) a.length (a++10::b).length 0 (by omega) (by omega) (by omega);have e:(a++10::b).length=(a.length+b.length)+1:=by simp; omega
 rw[e,QnX (by rfl) _ (by omega)]at h;rw[<-e]at h;exact h
theorem Quf {c:UInt8} (hc:cls c.toNat=1):QB (c::b)=(QB b).map (Ev.mv 1):=by
 have h:=QnX (a:=[]) hc b.length (b:=b) (by omega);exact h
end
theorem QxN:QB []=[]:=rfl
def Qa3:Nat->Nat->ZE
 |0,n=>[UInt8.ofNat (48+n)]
 |k+1,n=>if 9<n then Qa3 k (n / 10)++[UInt8.ofNat (48+n % 10)]else [UInt8.ofNat (48+n)]
def QcI (n:Nat):ZE:=Qa3 18 n
theorem Qzg {k n:Nat} (h:n<=9):Qa3 k n=[UInt8.ofNat (48+n)]:=by
 cases k with
 |zero=>rfl
 |succ k=>rw[Qa3,Zn (by omega)]
theorem QtO:∀ k n:Nat,(Qa3 k n).length<=k+1
 |0,n=>by simp[Qa3]
 |k+1,n=>by
  rw[Qa3];split
  . have:=QtO k (n / 10); simp; omega
  . simp
def opN (op:Int):Int:=if op=1\/op=2 then 0 else if op=3\/op=4 then 1 else if op=20 then 3 else if 5<=op/\op<=19 then 2 else -1
def Ex.op:Ex->Int
 |.mk op _ _ _ _=>op
theorem Qpj:∀ (k n:Nat),n<10 ^ (k+1)->∀ c∈Qa3 k n,48<=c.toNat/\c.toNat<=57
 |0,n,h,c,hc=>by
  rw[Qa3,VU]at hc;subst hc;have:(UInt8.ofNat (48+n)).toNat=48+n:=by simp; omega
  omega
 |k+1,n,h,c,hc=>by
  rw[Qa3]at hc;split at hc
  . rw[Vq,VU]at hc;rcases hc with hc|rfl
    . exact Qpj k (n / 10) (by rw[Nat.pow_succ]at h; omega) c hc
    . have:(UInt8.ofNat (48+n % 10)).toNat=48+n % 10:=by simp; omega
      omega
  . rw[VU]at hc;subst hc;have:(UInt8.ofNat (48+n)).toNat=48+n:=by simp; omega
    omega
theorem QlE (k n:Nat):0<(Qa3 k n).length:=by
 cases k with
 |zero=>simp[Qa3]
 |succ k=>rw[Qa3]; split<;>simp
theorem QpG:∀ (k n:Nat),n<10 ^ (k+1)->0<n->(Qa3 k n).getD 0 0≠48
 |0,n,h,h0,hc=>by
  rw[Qa3]at hc;have:UInt8.ofNat (48+n)=48:=by simpa using hc
  have h2:(UInt8.ofNat (48+n)).toNat=48+n:=by simp; omega
  rw[this]at h2;have:(48:UInt8).toNat=48:=rfl;omega
 |k+1,n,h,h0,hc=>by
  rw[Qa3]at hc;split at hc
  . have hp:=QlE k (n / 10);have e:(Qa3 k (n / 10)++[UInt8.ofNat (48+n % 10)]).getD 0 0=(Qa3 k (n / 10)).getD 0 0:=by
     rw[Vz,Vz,Vc hp]
    rw[e]at hc;exact QpG k (n / 10) (by rw[Nat.pow_succ]at h; omega) (by omega) hc
  . have:UInt8.ofNat (48+n)=48:=by simpa using hc
    have h2:(UInt8.ofNat (48+n)).toNat=48+n:=by simp; omega
    rw[this]at h2;have:(48:UInt8).toNat=48:=rfl;omega
theorem QrX:∀ (a b:ZE) (m:Int),(QaD a m).1=0->QaD (a++b) m=QaD b (QaD a m).2
 |[],b,m,_=>rfl
 |c::a,b,m,h=>by
  rw[Vr,QaD,QaD];rw[QaD]at h;split
  . rename_i h2; rw[Zo h2]at h; exact absurd h (show ¬ (2:Int)=0 by decide)
  . rename_i h2; rw[Zn h2]at h; exact QrX a b _ h
theorem Qsh:∀ (k n:Nat),n<10 ^ (k+1)->n<=1000000000->QaD (Qa3 k n) 0=(0,(n:Int))
 |0,n,h,hn=>by
  have h2:(UInt8.ofNat (48+n)).toNat=48+n:=by simp; omega
  rw[Qa3,QaD,h2,Zn (by omega),QaD];congr 1; omega
 |k+1,n,h,hn=>by
  rw[Qa3];split
  . have ih:=Qsh k (n / 10) (by rw[Nat.pow_succ]at h; omega) (by omega);rw[QrX _ _ _ (by rw[ih]),ih];have h2:(UInt8.ofNat (48+n % 10)).toNat=48+n % 10:=by simp; omega
    simp only[QaD];rw[h2,Zn (by omega)];congr 1; omega
  . have h2:(UInt8.ofNat (48+n)).toNat=48+n:=by simp; omega
    rw[QaD,h2,Zn (by omega),QaD];congr 1; omega
inductive TK where
 |wd (s:ZE)
 |sg (s:ZE)
 |nm (n:Nat)
inductive Pc where
 |b (c:UInt8)
 |t (k:TK)
def TK.tx:TK->ZE
 |.wd s=>s
 |.sg s=>s
 |.nm n=>QcI n
def txt:List Pc->ZE
 |[]=>[]
 |.b c::r=>c::txt r
 |.t k::r=>k.tx++txt r
def tks:List Pc->List TK
 |[]=>[]
 |.b _::r=>tks r
 |.t k::r=>k::tks r
theorem Qcd:∀ a b:List Pc,txt (a++b)=txt a++txt b
 |[],b=>rfl
 |.b c::a,b=>by simp[txt,Qcd a b]
 |.t k::a,b=>by simp[txt,Qcd a b]
theorem QaG:∀ a b:List Pc,tks (a++b)=tks a++tks b
 |[],b=>rfl
 |.b c::a,b=>by simp[tks,QaG a b]
 |.t k::a,b=>by simp[tks,QaG a b]
def Qes (t:Tok):TK->Prop
 |.wd s=>t.k=1/\t.tx=s
 |.sg s=>t.k=3/\t.tx=s
 |.nm n=>t.k=2/\t.n=n
inductive Qbp:List Tok->List TK->Prop
 |nil:Qbp [] []
 |cons {t:Tok} {k:TK} {ts:List Tok} {ks:List TK}:Qes t k->Qbp ts ks->Qbp (t::ts) (k::ks)
def QjY (s:ZE):Prop:=s≠[]/\cAt s 0=2/\(∀ i,i<s.length->cAt s i=2\/cAt s i=3)/\s.length<=40
def isSg (s:ZE):Prop:=(∃ c∈Qgs,s=[c])\/s∈QaH
def TK.ok:TK->Prop
 |.wd s=>QjY s
 |.sg s=>isSg s
 |.nm n=>n<=1000000000
def TK.sep:TK->ZE->Prop
 |.sg s,r=>s.length=2\/(r.getD 0 0≠61/\r.getD 0 0≠46)
 |_,r=>cAt r 0≠2/\cAt r 0≠3
def QdD:List Pc->Prop
 |[]=>True
 |.b c::r=>(c=32\/c=10)/\QdD r
 |.t k::r=>k.ok/\k.sep (txt r)/\QdD r
theorem Qrw {s r:ZE} {cs:List Int} (hs:∀ i,i<s.length->cAt s i∈cs) (hr:cAt r 0∉cs):Qas (s++r) cs 0=s.length:=by
 have key:∀ k,k<=s.length->Qas (s++r) cs (s.length-k)=s.length:=by
  intro k
  induction k with
  |zero =>
   intro _;refine Qh9 λh=>hr ?_;have:=Qew (a:=s) (b:=r) (p:=0);rw[<-this]; exact h.2
  |succ k ih =>
   intro hk;rw[Qnu (by simp; omega) (by rw[Qgx (by omega)]; exact hs _ (by omega)),show s.length-(k+1)+1=s.length-k by omega];exact ih (by omega)
 have:=key s.length (Vb _)
 rwa [Nat.sub_self]at this
theorem QmY (s r:ZE):cut (s++r) 0 s.length=s:=by simp[cut]
theorem Ql1 {s r:ZE} (h:s≠[]):cAt (s++r) 0=cAt s 0:=Qgx (Yg.2 h)
theorem Qqw {s r:ZE} (h:QjY s) (hr:cAt r 0≠2/\cAt r 0≠3):Qx (s++r) 0=.tok ⟨1,s,0,0⟩ s.length:=by
 obtain⟨h0,h1,h2,h3⟩:=h;have hru:=Qrw (cs:=[2,3]) (λi hi=>by simpa using h2 i hi) (by simpa using hr);unfold Qx;rw[Ql1 h0,h1,Zn (by decide),Zo rfl,hru];unfold QV;rw[QmY];have hw:whE (s++r) 1 s 0=(0,0):=by
  unfold whE;rw[Zn (by simp[h0]),Zn (by omega),Zo (by decide)]
 rw[hw,Zn (λh=>h rfl)]
theorem QwS {c:UInt8} (h:48<=c.toNat/\c.toNat<=57):cls c.toNat=3 :=
 (Qyu c.toNat_lt).2.1.2 (by simp[Qed]; omega)
theorem Qpe {s:ZE} (hs:∀ c∈s,48<=c.toNat/\c.toNat<=57) {i:Nat} (h:i<s.length):cAt s i=3:=by
 unfold cAt;rw[Vz,Ve h];exact QwS (hs _ (Vt h))
theorem Qs9 {n:Nat} {r:ZE} (h:n<=1000000000) (hr:cAt r 0≠3):Qx (QcI n++r) 0=.tok ⟨2,QcI n,n,0⟩ (QcI n).length:=by
 have hlt:n<10 ^ (18+1):=by omega
 have hd:=Qpj 18 n hlt;have hp:=QlE 18 n;have hh:=λh0=>QpG 18 n hlt h0;have hn:=Qsh 18 n hlt h;have hz:n=0->Qa3 18 n=[48]:=λh=>by subst h; rfl
 show Qx (Qa3 18 n++r) 0=_;unfold QcI;generalize Qa3 18 n=s at *;have hne:s≠[]:=Yg.1 hp;have hru:=Qrw (cs:=[3]) (s:=s) (r:=r) (λi hi=>by simpa using Qpe hd hi) (by simpa using hr);unfold Qx;rw[Ql1 hne,Qpe hd hp,Zn (by decide),Zn (by decide),Zo rfl,hru];unfold QV;rw[QmY];have hw:whE (s++r) 2 s 0=(0,(n:Int)):=by
  unfold whE;rw[Zn (by simp[hne]),Zn (by simp),Zn (by decide),Zn ?_,hn];rintro⟨g1,g2⟩;by_cases h0:n=0
  . rw[hz h0]at g1; simp at g1
  . exact hh (by omega) g2
 rw[hw,Zn (λh=>h rfl)]
theorem QpC {s r:ZE} (h:isSg s) (hr:s.length=2\/(r.getD 0 0≠61/\r.getD 0 0≠46)):Qx (s++r) 0=.tok ⟨3,s,0,0⟩ s.length:=by
 have h4:cAt s 0=4/\s≠[]/\Qba (s++r) 0=s.length:=by
  rcases h with ⟨c,hc,rfl⟩|hd
  . have hr:r.getD 0 0≠61/\r.getD 0 0≠46:=by
     rcases hr with hr|hr
     . simp at hr
     . exact hr
    refine⟨?_,by simp,?_⟩
    . simp only[Qgs,Vd,Vu,Zt]at hc;rcases hc with rfl|rfl|rfl|rfl|rfl|rfl|rfl|rfl|rfl|rfl|rfl|rfl|rfl|rfl|rfl<;>decide
    . have hnd:QdO (c::r)=false:=by
       cases r with
       |nil =>
        simp only[Qgs,Vd,Vu,Zt]at hc;rcases hc with rfl|rfl|rfl|rfl|rfl|rfl|rfl|rfl|rfl|rfl|rfl|rfl|rfl|rfl|rfl<;>decide
       |cons d r =>
        have hd1:d≠61:=by simpa using hr.1
        have hd2:d≠46:=by simpa using hr.2
        simp[QdO,QaH,List.isPrefixOf,Ne.symm hd1,Ne.symm hd2]
      have hc33:c≠33/\c≠46:=by
       simp only[Qgs,Vd,Vu,Zt]at hc;rcases hc with rfl|rfl|rfl|rfl|rfl|rfl|rfl|rfl|rfl|rfl|rfl|rfl|rfl|rfl|rfl<;>decide
      unfold Qba;simp[hnd,hc33]
  . simp only[QaH,Vd,Vu,Zt]at hd;have hp:QdO (s++r)=true:=by
     rcases hd with rfl|rfl|rfl|rfl|rfl<;>simp[QdO,QaH,List.isPrefixOf]
    refine⟨?_,?_,?_⟩
    . rcases hd with rfl|rfl|rfl|rfl|rfl<;>decide
    . rcases hd with rfl|rfl|rfl|rfl|rfl<;>simp
    . unfold Qba;simp only[Yx,hp,Zs];rcases hd with rfl|rfl|rfl|rfl|rfl<;>rfl
 obtain⟨h4,h0,hs⟩:=h4;unfold Qx;rw[Ql1 h0,h4,Zn (by decide),Zn (by decide),Zn (by decide),Zo rfl,hs];unfold QV;rw[QmY];have hw:whE (s++r) 3 s 0=(0,0):=by
  unfold whE;rw[Zn (by simp[h0]),Zn (by simp),Zo (by decide)]
 rw[hw,Zn (λh=>h rfl)]
theorem QAr {l l' tx:ZE} {k:Int} {p p':Nat} (h:k≠1):whE l k tx p=whE l' k tx p':=by
 unfold whE; simp[h]
theorem QqP {a b:ZE} (h:(a=[]\/cAt a (a.length-1)≠3)\/cAt b 0≠2):Qx (a++b) a.length=(Qx b 0).mv a.length:=by
 rcases h with h|h
 . exact Qpq (p:=0) λ_=>h
 . have hm:∀ (k:Int) (q:Nat),k≠1->QV (a++b) (a.length+0) k (a.length+q)=(QV b 0 k q).mv a.length:=by
    intro k q hk;unfold QV;rw[QsA,QAr (l':=b) (p':=0) hk];split<;>rfl
   show Qx (a++b) (a.length+0)=_;unfold Qx;rw[Qew,QkI,QkI,Qow,QlG,QkK,Zn h,Zn h,hm 2 _ (by decide),hm 3 _ (by decide),hm 0 0 (by decide)];split
   . rfl
   . split
     . rfl
     . split
       . rfl
       . split
         . first|rfl|(simp only[Stp.mv,V6,Ya])
         . rfl
def TK.nV:TK->Int
 |.nm n=>n
 |_=>0
def Plc:Nat->List Pc->List Tok->Prop
 |_,[],ts=>ts=[]
 |n,.b _::r,ts=>Plc (n+1) r ts
 |n,.t k::r,t::ts=>t.p=n/\(t.tx=k.tx/\t.n=k.nV)/\Plc (n+k.tx.length) r ts
 |_,.t _::_,[]=>False
theorem Qh2:∀ (ps:List Pc),QdD ps->∀ (a:ZE) (n:Nat),(txt ps).length<=n->((a=[]\/cAt a (a.length-1)≠3)\/cAt (txt ps) 0≠2) ->
 ∃ ts:List Tok,evs (a++txt ps) n a.length=ts.map .tok/\Qbp ts (tks ps)/\Plc a.length ps ts
 |[],_,a,n,_,_=>by
  refine⟨[],?_,.nil,rfl⟩
  cases n with
  |zero=>rfl
  |succ n=>simp[evs,txt]
 |.b c::r,hg,a,n,hn,hc=>by
  obtain⟨h1,h2⟩:=hg;rw[txt]at hn hc ⊢
  cases n with
  |zero=>simp at hn
  |succ n =>
   have hcl:cAt (c::txt r) 0=1:=by rcases h1 with rfl|rfl<;>rfl
   have hst:Qx (a++c::txt r) a.length=.skip (a.length+1):=by
    rw[QqP hc];unfold Qx;rw[hcl,Zo rfl]; rfl
   have e:a++c::txt r=(a++[c])++txt r:=by simp
   have hl:(a++[c]).length=a.length+1:=by simp
   obtain⟨ts,g1,g2,g3⟩:=Qh2 r h2 (a++[c]) n (by simpa using hn) (.inl (.inr (by
    have:=Qew (a:=a) (b:=[c]) (p:=0);rw[hl,Nat.add_sub_cancel,<- V6 a.length,this];rcases h1 with rfl|rfl<;>decide)))
   refine⟨ts,?_,g2,by rw[hl]at g3; exact g3⟩;rw[evs,Zo (by simp),hst];simp only;rw[e,<- hl];exact g1
 |.t k::r,hg,a,n,hn,hc=>by
  obtain⟨h1,h2,h3⟩:=hg;rw[txt]at hn hc ⊢;have hkt:∃ t:Tok,Qx (k.tx++txt r) 0=.tok t k.tx.length/\(Qes t k/\t.p=0/\t.tx=k.tx/\t.n=k.nV)/\0<k.tx.length/\((cAt k.tx (k.tx.length-1)≠3)\/cAt (txt r) 0≠2):=by
   cases k with
   |wd s=>exact⟨_,Qqw h1 h2,⟨⟨rfl,rfl⟩,rfl,rfl,rfl⟩,Yg.2 h1.1,.inr h2.1⟩
   |nm n=>exact⟨_,Qs9 h1 h2.2,⟨⟨rfl,rfl⟩,rfl,rfl,rfl⟩,QlE 18 n,.inr h2.1⟩
   |sg s =>
    refine⟨_,QpC h1 h2,⟨⟨rfl,rfl⟩,rfl,rfl,rfl⟩,?_,.inl ?_⟩
    . rcases h1 with ⟨c,_,rfl⟩|hd
      . exact Nat.one_pos
      . simp only[QaH,Vd,Vu,Zt]at hd;rcases hd with rfl|rfl|rfl|rfl|rfl<;>decide
    . rcases h1 with ⟨c,hcs,rfl⟩|hd
      . simp only[Qgs,Vd,Vu,Zt]at hcs;rcases hcs with rfl|rfl|rfl|rfl|rfl|rfl|rfl|rfl|rfl|rfl|rfl|rfl|rfl|rfl|rfl<;>decide
      . simp only[QaH,Vd,Vu,Zt]at hd;rcases hd with rfl|rfl|rfl|rfl|rfl<;>decide
  obtain⟨t,ht,⟨hf,hp0,htx⟩,hp,hl⟩:=hkt
  cases n with
  |zero=>rw[Vj]at hn; omega
  |succ n =>
   have hst:Qx (a++(k.tx++txt r)) a.length=.tok (t.mv a.length) (a.length+k.tx.length):=by
    rw[QqP hc,ht]; rfl
   have e:a++(k.tx++txt r)=(a++k.tx)++txt r:=by simp
   have hal:(a++k.tx).length=a.length+k.tx.length:=by simp
   obtain⟨ts,g1,g2,g3⟩:=Qh2 r h3 (a++k.tx) n (by rw[Vj]at hn; omega) (by
    rcases hl with hl|hl
    . refine .inl (.inr ?_);have:=Qew (a:=a) (b:=k.tx) (p:=k.tx.length-1);rw[hal,show a.length+k.tx.length-1=a.length+(k.tx.length-1)by omega,this];exact hl
    . exact .inr hl)
   refine⟨t.mv a.length::ts,?_,.cons ?_ g2,by show a.length+t.p=_; omega,htx,by rw[hal]at g3; exact g3⟩
   . rw[evs,Zo (by simp; omega),hst];simp only[Vg];rw[e,<- hal,g1]
   . cases k<;>exact hf
theorem Qnv:∀ ts:List Tok,QY (ts.map .tok)=ts
 |[]=>rfl
 |t::r=>by simp[QY,Qnv r]
theorem QnD {ps:List Pc} (hg:QdD ps) (hf:(Qi (txt ps)).2.1=0):Qbp (Qi (txt ps)).1 (tks ps):=by
 obtain⟨ts,g1,g2,_⟩:=Qh2 ps hg [] (txt ps).length (Vb _) (.inl (.inl rfl));have g1:QB (txt ps)=ts.map .tok:=g1;unfold Qi at hf ⊢;split at hf
 . exact absurd hf (by decide)
 . rename_i h1;split at hf
   . rename_i h2;rw[Zn h1,Zo h2,g1,Qnv]; exact g2
   . rename_i h2; exact absurd hf h2
theorem QAx {s:ZE} {cs:List Int} {i:Nat} (hi:cAt s i∉cs):∀ k,k<=i->Qas s cs (i-k)<=i:=by
 intro k
 induction k with
 |zero=>intro _; rw[Nat.sub_zero,Qh9 (λh=>hi h.2)]; exact Vb _
 |succ k ih =>
  intro hk;by_cases h:i-(k+1)<s.length/\cAt s (i-(k+1))∈cs
  . rw[Qnu h.1 h.2,show i-(k+1)+1=i-k by omega]; exact ih (by omega)
  . rw[Qh9 h]; omega
theorem Qvy {s:ZE} {cs:List Int} (h:Qas s cs 0=s.length) {i:Nat} (hi:i<s.length):cAt s i∈cs:=by
 by_cases hc:cAt s i∈cs
 . exact hc
 . have:=QAx hc i (Vb _);rw[Nat.sub_self]at this;omega
theorem QxQ {s:ZE} (h:Qbh 1 s 0=0):QjY s:=by
 unfold Qbh at h;split at h
 . exact absurd h (by decide)
 . rename_i h0;have hne:s≠[]:=λe=>h0 (.inl e);have c1:cAt s 0≠1:=λe=>h0 (.inr (.inr (.inr (.inl e))));have c5:s.getD 0 0≠35:=λe=>h0 (.inr (.inr (.inr (.inr e))));split at h
   . rename_i t q hst;split at h
     . exact absurd h (by decide)
     . rename_i hq;have hq1:q=s.length:=by
        by_cases e:q=s.length
        . exact e
        . exact absurd (.inl e) hq
       have hk:t.k=1:=by
        by_cases e:t.k=1
        . exact e
        . exact absurd (.inr e) hq
       unfold Qx at hst;rw[Zn c1]at hst;have key:∀ k q',QV s 0 k q'=.tok t q->t.k=k/\q=q'/\(whE s k (cut s 0 q') 0).1=0:=by
        intro k q' hm;unfold QV at hm;split at hm
        . cases hm
        . rename_i hw;injection hm with a b;refine⟨?_,b.symm,?_⟩
          . rw[<-a]
          . by_cases e:(whE s k (cut s 0 q') 0).1=0
            . exact e
            . exact absurd e hw
       split at hst
       . rename_i c2;obtain⟨_,k2,k3⟩:=key _ _ hst;have hr:Qas s [2,3] 0=s.length:=by omega
         refine⟨hne,c2,λi hi=>by simpa using Qvy hr hi,?_⟩;rw[hr]at k3;have hcut:cut s 0 s.length=s:=by simp[cut]
         rw[hcut]at k3;unfold whE at k3;split at k3
         . exact absurd k3 (show ¬ (11:Int)=0 by decide)
         . split at k3
           . exact absurd k3 (show ¬ (4:Int)=0 by decide)
           . rename_i h40; omega
       . split at hst
         . obtain⟨k1,_⟩:=key _ _ hst; omega
         . split at hst
           . obtain⟨k1,_⟩:=key _ _ hst; omega
           . first
             | (obtain⟨k1,_⟩:=key _ _ hst; omega)
             | (rw[Zn c5]at hst; obtain⟨k1,_⟩:=key _ _ hst; omega)
   . exact absurd h (by decide)
def Rem (c:Cx) (a:Nat) (L:List TK):Prop:=Qbp (c.ts.drop a) L
theorem Rem.lt {c:Cx} {a:Nat} {k:TK} {L:List TK} (h:Rem c a (k::L)):∃ h:a<c.ts.length,Qes c.ts[a] k:=by
 unfold Rem at h;by_cases ha:a<c.ts.length
 . rw[VT ha]at h
   cases h with
   |cons h1 h2=>exact⟨ha,h1⟩
 . rw[VS (by omega)]at h; cases h
theorem Rem.next {c:Cx} {a:Nat} {k:TK} {L:List TK} (h:Rem c a (k::L)):Rem c (a+1) L:=by
 obtain⟨ha,_⟩:=h.lt;unfold Rem at h ⊢;rw[VT ha]at h
 cases h with
 |cons h1 h2=>exact h2
theorem Rem.end {c:Cx} {a:Nat} (h:Rem c a []):c.ts.length<=a:=by
 by_cases ha:a<c.ts.length
 . unfold Rem at h;rw[VT ha]at h
   cases h
 . omega
def pk (L:List TK) (s:ZE):Bool:=match L with
 |.wd w::_=>decide (w=s)
 |.sg w::_=>decide (w=s)
 |_=>false
def Qem (L:List TK):Bool:=match L with
 |.wd w::_ => !decide (w∈Qa0)
 |_=>false
def isn (L:List TK):Bool:=match L with
 |.nm _::_=>true
 |_=>false
structure Sta (c:Cx) (d:Nat) (r:Rd) (L:List TK):Prop where
 e:r.e=0
 rem:Rem c r.a L
 v:r.v+d=40
 d:d<=40
theorem Sta.peek {c:Cx} {d:Nat} {r:Rd} {L:List TK} (h:Sta c d r L) (s:ZE):Qd c s r=pk L s:=by
 unfold Qd Qaj;rw[h.e]
 cases L with
 |nil =>
  have:=h.rem.end;rw[ZA (by omega)]; rfl
 |cons k L =>
  obtain⟨ha,hf⟩:=h.rem.lt;rw[Zx ha]
  cases k with
  |wd w=>simp[pk,hf.1,hf.2]
  |sg w=>simp[pk,hf.1,hf.2]
  |nm n=>simp[pk,hf.1]
theorem Sta.free {c:Cx} {d:Nat} {r:Rd} {L:List TK} (h:Sta c d r L):QU c r=Qem L:=by
 unfold QU Qaj;rw[h.e]
 cases L with
 |nil =>
  have:=h.rem.end;rw[ZA (by omega)]; rfl
 |cons k L =>
  obtain⟨ha,hf⟩:=h.rem.lt;rw[Zx ha]
  cases k with
  |wd w=>simp[hf.1,hf.2,Qem]
  |sg w=>simp[hf.1,Qem]
  |nm n=>simp[hf.1,Qem]
theorem Sta.num {c:Cx} {d:Nat} {r:Rd} {L:List TK} (h:Sta c d r L):QaX c r=isn L:=by
 unfold QaX Qaj;rw[h.e]
 cases L with
 |nil =>
  have:=h.rem.end;rw[ZA (by omega)]; rfl
 |cons k L =>
  obtain⟨ha,hf⟩:=h.rem.lt;rw[Zx ha]
  cases k with
  |wd w=>simp[hf.1,isn]
  |sg w=>simp[hf.1,isn]
  |nm n=>simp[hf.1,isn]
theorem Sta.next {c:Cx} {d:Nat} {r:Rd} {k:TK} {L:List TK} (h:Sta c d r (k::L)):Sta c d (Qa r) L:=⟨h.e,h.rem.next,h.v,h.d⟩
theorem Sta.take {c:Cx} {d:Nat} {r:Rd} {k:TK} {L:List TK} {s:ZE} (h:Sta c d r (k::L)) (hk:pk (k::L) s=true):(Qh c s r).2=Qa r/\Sta c d (Qh c s r).2 L:=by
 have e:(Qh c s r).2=Qa r:=by unfold Qh; rw[h.peek,Zo hk]
 exact⟨e,e ▸ h.next⟩
theorem Sta.word {c:Cx} {d:Nat} {r:Rd} {w:ZE} {L:List TK} (h:Sta c d r (.wd w::L)) (hw:w∉Qa0):QK c r=(w,Qa r)/\Sta c d (Qa r) L:=by
 refine⟨?_,h.next⟩
 obtain⟨ha,hf⟩:=h.rem.lt;unfold QK;rw[Zo (by rw[h.free]; simpa[Qem]using hw),Vz,Ve ha];simp[hf.2]
theorem Sta.numb {c:Cx} {d:Nat} {r:Rd} {n:Nat} {L:List TK} (h:Sta c d r (.nm n::L)):nmR c r=((n:Int),Qa r)/\Sta c d (Qa r) L:=by
 refine⟨?_,h.next⟩
 obtain⟨ha,hf⟩:=h.rem.lt;unfold nmR;rw[Zo (by rw[h.num]; rfl),Vz,Ve ha];simp[hf.2]
mutual
def Ex.er:Ex->Ex
 |.mk op n nm l _=>.mk op n nm (Ex.erL l) 0
def Ex.erL:List Ex->List Ex
 |[]=>[]
 |e::r=>e.er::Ex.erL r
end
theorem ne5 {x:Int} (h:x=5):x≠0:=by omega
def Qb9 (ops:List (ZE×Int)) (L:List TK):Prop:=∀ o∈ops,pk L o.1=false
theorem Qqy {c:Cx} {ops:List (ZE×Int)} {r:Rd} (h:∀ o∈ops,Qd c o.1 r=false):Qal c ops r=none:=by
 unfold Qal;rw[Option.map_eq_none_iff,Y7];intro o ho; rw[h o ho]; decide
theorem Sta.none {c:Cx} {d:Nat} {r:Rd} {L:List TK} {ops:List (ZE×Int)} (h:Sta c d r L) (hn:Qb9 ops L):Qal c ops r=none:=Qqy λo ho=>by rw[h.peek]; exact hn o ho
theorem Sta.some {c:Cx} {d:Nat} {r:Rd} {k:TK} {L:List TK} {ops:List (ZE×Int)} {s:ZE} {op:Int} (h:Sta c d r (k::L)) (hk:k=.sg s\/k=.wd s) (hf:(ops.find? λo=>decide (s=o.1)).map (·.2)=.some op):Qal c ops r=.some op:=by
 unfold Qal;have e:(λo:ZE×Int=>Qd c o.1 r)=λo=>decide (s=o.1):=by
  funext o;rw[h.peek];rcases hk with rfl|rfl<;>rfl
 rw[e]; exact hf
theorem Qd6 {c:Cx} {ops:List (ZE×Int)} {f:Rd->Ex×Rd} {e:Ex} {r:Rd} (h:Qal c ops r=.none) (n:Nat):QaC c ops f n e r=(e,r):=by
 cases n with
 |zero=>rfl
 |succ n=>rw[QaC,h]
section
variable {c:Cx} {d:Nat}
variable {cmp ntP orP facP:Rd->Ex×Rd} {l la:List TK} {e a:Ex} {st sa:List TK->Prop}
theorem Qh1:∀ a b:List Ex,Ex.erL (a++b)=Ex.erL a++Ex.erL b
 |[],b=>rfl
 |e::a,b=>by simp[Ex.erL,Qh1 a b]
end
mutual
def Qnb:Ex->Bool
 |.mk op n nm l _=>decide ((l.length:Int)=opN op)&&((decide (op=1)||decide (n=0))&&((decide (op=2)||decide (nm=[]))&&((!decide (op=2)||Qb8 nm)&&(decide (0<=n)&&(decide (n<=1000000000)&&Qmi l)))))
def Qmi:List Ex->Bool
 |[]=>true
 |e::r=>Qnb e&&Qmi r
end
theorem QFI {op n p:Int} {nm:ZE} {l:List Ex}:Qnb (.mk op n nm l p)=true↔(l.length:Int)=opN op/\(op=1\/n=0)/\(op=2\/nm=[])/\(op≠2\/Qb8 nm=true)/\0<=n/\n<=1000000000/\Qmi l=true:=by
 rw[Qnb];simp only[Va,V4,Zq,VM,ZB,ne_eq]
theorem QyY {s:ZE} (h:Qb8 s=true):QjY s/\s∉Qa0:=by
 unfold Qb8 at h;simp only[Va,Zq,VM,ZB]at h;exact⟨QxQ h.1,h.2⟩
section
variable {c:Cx}
def l1 (c:Cx) (d:Nat):Rd->Ex×Rd:=QS c QaV (lv c d).fac
def l2 (c:Cx) (d:Nat):Rd->Ex×Rd:=QS c Qa6 (l1 c d)
def l3 (c:Cx) (d:Nat):Rd->Ex×Rd:=Qar c (l2 c d)
theorem Qxz (d:Nat):∃ N,(lv c d).nt=Qat c (l3 c d) N:=by
 cases d with
 |zero=>exact⟨_,rfl⟩
 |succ d=>exact⟨_,rfl⟩
theorem Qs0 (d:Nat):Qt (lv c d).fac:=by
 cases d with
 |zero=>exact Qfk
 |succ d=>exact Qfk
section
variable {d:Nat} {l:List TK} {e:Ex}
abbrev any (_:List TK):Prop:=True
end
end
def kwG:ZE:=[103,97,109,101]
def QhV:ZE:=[112,108,97,121,101,114,115]
def kwV:ZE:=[118,97,114]
def kwD:ZE:=[100,101,97,108]
def kwI:ZE:=[105,110]
def kwW:ZE:=[119,101,105,103,104,116]
def kwS:ZE:=[115,101,101,110]
def kwB:ZE:=[98,121]
def kwA:ZE:=[97,108,108]
def kwT:ZE:=[116,117,114,110]
def Qir:ZE:=[97,99,116,105,111,110]
def QhO:ZE:=[119,104,101,110]
def kwH:ZE:=[104,105,100,100,101,110]
def QiX:ZE:=[103,111,116,111]
def kwE:ZE:=[101,110,100]
def kwP:ZE:=[112,97,121]
def Qp.er (s:Qp):Qp:=⟨s.nm,s.e.er,0⟩
def Qn.er (a:Qn):Qn:=⟨a.nm,Ex.erL a.wh,a.hid,a.sets.map Qp.er,a.go,0⟩
def Qb.er (x:Qb):Qb:=⟨x.k,x.lb,x.nm,x.lo,x.hi,Ex.erL x.wt,x.all,x.seen,Ex.erL x.who,x.acts.map Qn.er,Ex.erL x.pays,0⟩
def Qm.er (v:Qm):Qm:=⟨v.nm,v.n,0⟩
def QC.er (r:QC):QC:=⟨r.nm,r.pl,r.vars.map Qm.er,r.stages.map Qb.er⟩
def Qdq (w:ZE) (b:Bool):List Pc:=if b=true then [.b 32,.t (.wd w)]else []
section
variable {c:Cx}
theorem Q3 {α:Type} {F:Rd->α×Rd} {r:Rd} (hs:Qt F) (h:(F r).2.e=0):r.e=0:=by
 by_cases he:r.e=0
 . exact he
 . rw[hs r he]at h; exact absurd h he
theorem t2b {s:ZE} {r:Rd} (h:(t2 c s r).e=0):r.e=0:=Q3 (Qdi s) h
theorem Qb7 {e:Int} (he:e≠0) (r:Rd):(Qg c e r).e≠0:=by
 unfold Qg;split
 . exact he
 . rename_i h; exact h
theorem Sta.t2 {d:Nat} {r:Rd} {k:TK} {L:List TK} {s:ZE} (h:Sta c d r (k::L)) (hk:pk (k::L) s=true):Sta c d (t2 c s r) L:=(h.take hk).2
theorem QuJ:Qt (orT c):=QiZ c 40
theorem Sta.len {d:Nat} {r:Rd} {L:List TK} (h:Sta c d r L):L.length<=c.ts.length:=by
 have key:∀ {ts:List Tok} {ks:List TK},Qbp ts ks->ts.length=ks.length:=by
  intro ts ks h
  induction h with
  |nil=>rfl
  |cons _ _ ih=>simp[ih]
 have:=key h.rem;rw[YF]at this;omega
end
section
variable {c:Cx}
theorem Qm7 (n:Nat) (l:List Int):Qt (QaE c n l):=by
 cases n with
 |zero=>intro r h; rfl
 |succ n=>intro r h; rw[QaE,Zn (by rw[QaM h]; decide)]
end
section
variable {c:Cx}
theorem Qtj (n:Nat) (l:List Qm):Qt (Qab c n l):=by
 cases n with
 |zero=>intro r h; rfl
 |succ n=>intro r h; rw[Qab,Zn (by rw[QaM h]; decide)]
theorem QoI (n:Nat) (l:List Qb):Qt (QL c (orT c) n l):=by
 cases n with
 |zero=>intro r h; rfl
 |succ n=>intro r h; rw[QL,Zn (λh2=>h h2.1)]
end
theorem Qzu {d:Nat} (h:d<=9):Utf8.encode ((48:Int)+(d:Int))=B [UInt8.ofNat (48+d)]:=by
 have:d=0\/d=1\/d=2\/d=3\/d=4\/d=5\/d=6\/d=7\/d=8\/d=9:=by omega
 rcases this with rfl|rfl|rfl|rfl|rfl|rfl|rfl|rfl|rfl|rfl<;>decide
section
variable {H:ZG}
theorem QyK {x n:Int} (hn:1<=n):(if x.tmod n<0 then x.tmod n+n else x.tmod n)=x % n:=by
 rw[Int.tmod_eq_emod];have h1:=Int.emod_nonneg x (show n≠0 by omega);have h2:=Int.emod_lt_of_pos x (show 0<n by omega);have h3:n ∣ x->x % n=0:=Int.emod_eq_zero_of_dvd;split
 . split
   . omega
   . simp
 . rename_i h;have h4:(n.natAbs:Int)=n:=by omega
   split
   . omega
   . rename_i h5;have:¬ n ∣ x:=λhd=>h (.inr hd);have:x % n≠0:=λe=>this (Int.dvd_of_emod_eq_zero e);omega
theorem Qy8 {x n:Int} (hn:1<=n) : -n<x.tmod n/\x.tmod n<n:=by
 have h1:=Int.tmod_lt_of_pos x (show 0<n by omega);have h2 : -(x.tmod n)<n:=by rw[<-Int.neg_tmod]; exact Int.tmod_lt_of_pos _ (by omega)
 omega
theorem ok27 (x n:Int) (h1:1<=n) (h2:n<=9223372036854775807):Ok Tryz.prog 27 [i64 x,i64 n] H (.ret (i64 (x % n))) H:=by
 refine Qz hm Tryz.func27 c27 (by simp) λhcl => ?_;have hb:=Qy8 (x:=x) h1;have hf:=QyK (x:=x) h1;simp -implicitDefEqProofs[i27,r27,show ¬ n=0 by omega];split
 . rename_i h;rw[Zo h]at hf;rw[Qah (by omega) (by omega),hf]; exact Qj
 . rename_i h;rw[Zn h]at hf;rw[hf]; exact Qj
def drO (l:List Int) (a:Nat):AO:=⟨[.slc (QM l) l.length,i64 a],102,0,true⟩
def nxD (l:List Int) (a n:Nat):Nat×Nat:=if l.length<=a\/n<1 then(0,a)else((l.getD a 0 % (n:Int)).toNat,a+1)
theorem QW {l:List Int} {a n:Nat} (h:a<=l.length):(nxD l a n).2<=l.length:=by unfold nxD; split<;>simp<;>omega
theorem Qad {l:List Int} {a n:Nat} (h:1<=n):(nxD l a n).1<n:=by
 unfold nxD;split
 . simp; omega
 . have h1:=Int.emod_nonneg (l.getD a 0) (show(n:Int)≠0 by omega);have h2:=Int.emod_lt_of_pos (l.getD a 0) (show 0<(n:Int)by omega);simp only; omega
theorem ok64 {j:Nat} {l:List Int} {a:Nat} (ho:H[j]? = some (drO l a)) (ha:a<=l.length) (hl:l.length<4611686018427387904) (n:Nat) (hn:n<=9223372036854775807) :
 Ok Tryz.prog 64 [rp j,i64 n] H (.ret (i64 ((nxD l a n).1:Nat))) (H.set j (drO l (nxD l a n).2)):=by
 have e1:Qo H j 0=[.slc (QM l) l.length,i64 a]:=Qav (o:=drO l a) ho rfl;have e2:∀ f:AO->AO,Ab.setObj H j f=H.set j (f (drO l a)):=λf=>Qb5 ho f;have e3:∀ o:AO,o.live=true->o.ver=0->Qo (H.set j o) j 0=o.cells:=by
  intro o h1 h2;have:=Qav (H:=H.set j o) (i:=j) (o:=o) (by rw[Vo (Ql ho)]) h1;rw[h2]at this; exact this
 have e4:H.set j (drO l a)=H:=by
  apply V5;intro i;by_cases h:j=i
  . subst h; rw[Vo (Ql ho),ho]
  . rw[Vf h]
 refine Qz hm Tryz.func64 c64 (by simp) λhcl => ?_;by_cases h1:l.length<=a
 . simp -implicitDefEqProofs[Qk2,r64,e1,h1,show(l.length:Int)<=a by omega,nxD,e4,rp];exact Qj
 . by_cases h2:n<1
   . simp -implicitDefEqProofs[Qk2,r64,e1,h1,show ¬ (l.length:Int)<=a by omega,nxD,e4,show n=0 by omega,rp];exact Qj
   . have hlt:a<l.length:=by omega
     have e5:IntKind.i64.wrap ((a:Int)+1)=(a:Int)+1:=QaJ (by omega);have e6:IntKind.i64.wrap (a:Int)=(a:Int):=Qfn (by omega);have hp:¬ n=0:=by omega
     have hp2:¬ (n:Int)<1:=by omega
     simp -implicitDefEqProofs[Qk2,r64,e1,h1,show ¬ (l.length:Int)<=a by omega,nxD,e2,hp,hp2,drO,e3,e5,e6,hlt,rp];refine⟨by omega,?_⟩;refine QeF (λ_=>ok27 l[a] n (by omega) (by omega)) ?_;have:=Int.emod_nonneg l[a] (show(n:Int)≠0 by omega);simp -implicitDefEqProofs[show max (l[a] % (n:Int)) 0=l[a] % (n:Int)by omega];exact Qj
def dg (n:Nat):ZE:=[UInt8.ofNat (48+n)]
theorem Qeo {n:Nat} (h:n<=9):Ok Tryz.prog 65 [i64 n] H (.ret (st (B (dg n)))) H:=by
 refine Qz hm Tryz.func65 c65 (by simp) λhcl => ?_;have he:Utf8.encode ((48:Int)+(n:Int))=B (dg n):=Qzu h;have hd:(dg n).length=1:=rfl;have hz:n=0->dg n=[48]:=λh=>by subst h; rfl
 generalize dg n=t at he hd hz ⊢;have hr:∀ {N:Nat} {env:Env} {K:ZF} {tx:ZE},env.get 4=i64 0->env.get 3=st (B tx)->(∀ env,env.get 3=st (B tx)->env.get 0=i64 n->K (.exit 0) env H)->env.get 0=i64 n->LI Tryz.prog N Qf QjH env H K:=by
  intro N env K tx h4 h3 hk h0;refine Qu hm QjH.eq_1 ?_;simp -implicitDefEqProofs[h4];refine hk _ ?_ ?_
  . simp[h3]
  . simp[h0]
 by_cases h0:n=0
 . subst h0;simp -implicitDefEqProofs[i65,r65];refine hr (tx:=[]) rfl rfl (λenv h3 h0 => ?_) (by simp);rw[hz rfl];simp -implicitDefEqProofs[h0];exact Qj
 . have g1:¬ (n:Int)=0:=by omega
   simp -implicitDefEqProofs[i65,r65];refine Qu hm QjH.eq_1 ?_;have t1:(n:Int).tmod 10=n:=by rw[Int.tmod_eq_emod_of_nonneg (by omega)]; omega
   have t2:(n:Int).tdiv 10=0:=by rw[Int.tdiv_eq_ediv_of_nonneg (by omega)]; omega
   have w2:IntKind.i64.wrap (-(n:Int)) = -n:=Qah (by omega) (by omega);have w3:IntKind.i64.wrap (48+(n:Int))=48+(n:Int):=Qah (by omega) (by omega);have w4:IntKind.i32.wrap (48+(n:Int))=48+(n:Int):=by unfold IntKind.wrap; simp[IntKind.bits,IntKind.signed]; omega
   have w6:max (n:Int) (-n)=n:=by omega
   simp -implicitDefEqProofs[h0,t1,t2,w2,w3,w4,w6,he,QX];refine⟨⟨rfl,by show(B t).size<=_; rw[QX,hd]; decide⟩,?_⟩;have e0:(SV.val (Value.string (B t))).str++{ data := #[] }=B t:=by
    show B t++ByteArray.empty=B t;apply ByteArray.ext; simp
   refine hr (tx:=t) ?_ ?_ (λenv h3 h00 => ?_) ?_
   . simp -implicitDefEqProofs[show IntKind.i64.wrap 0=0 from rfl]
   . simp -implicitDefEqProofs[e0]
   . simp -implicitDefEqProofs[h3,h00,h0];exact Qj
   . simp
end
def vN (x:Nat):ZE:=[118]++dg x
structure GX where
 k:Nat
 x:Nat
 y:Nat
def gx (l:List Int) (v n a:Nat):GX×Nat :=
 (⟨(nxD l (nxD l (nxD l a v).2 v).2 n).1,(nxD l a v).1,(nxD l (nxD l a v).2 v).1⟩,(nxD l (nxD l (nxD l a v).2 v).2 n).2)
def exT (k:Nat) (x y:ZE):ZE :=
 if k=0 then x++[32,43,32]++y
 else if k=1 then x++[32,45,32,50,32,42,32]++y
 else if k=2 then [109,97,120,40]++x++[44,32]++y++[41]
 else if k=3 then [105,102,40]++x++[32,60,32]++y++[44,32,49,44,32,45,49,41]
 else if k=4 then [109,105,110,40]++x++[44,32,51,41,32,43,32,49]
 else if k=5 then [45]++x
 else if k=6 then [40]++x++[32,43,32,55,41,32,37,32,51]
 else x
def cdT (k:Nat) (x y:ZE):ZE :=
 if k=0 then x++[32,60,32,49]
 else if k=1 then x++[32,62,61,32]++y++[32,97,110,100,32,110,111,116,32]++y++[32,61,61,32,50]
 else if k=2 then x++[32,33,61,32,48,32,111,114,32]++y++[32,62,32,49]
 else [110,111,116,32]++x++[32,60,61,32,48]
def exB (g:GX):ZE:=exT g.k (vN g.x) (vN g.y)
def cdB (g:GX):ZE:=cdT g.k (vN g.x) (vN g.y)
theorem QmO (g:GX):(exB g).length<=40:=by
 unfold exB exT;repeat' split
 all_goals simp[vN,dg]
theorem Qhs (g:GX):(cdB g).length<=40:=by
 unfold cdB cdT;repeat' split
 all_goals simp[vN,dg]
theorem QfA {l:List Int} {v n a:Nat} (h:a<=l.length):(gx l v n a).2<=l.length:=QW (QW (QW h))
section
variable {H:ZG} {j:Nat} {l:List Int} {a:Nat}
theorem QvL {o o':AO} (ho:H[j]? = some o):(H.set j o')[j]? = some o':=Vo (Ql ho)
abbrev mvD (H:ZG) (j:Nat) (l:List Int) (a:Nat):ZG:=H.set j (drO l a)
theorem Qri (b:Nat):mvD (mvD H j l b) j l a=mvD H j l a:=VD ..
theorem Qlw (ho:H[j]? = some (drO l a)) (b:Nat):(mvD H j l b)[j]? = some (drO l b):=QvL ho
theorem QBm (L:ZG) (ho:H[j]? = some (drO l a)):(H++L)[j]? = some (drO l a):=by rw[Vc (Ql ho)]; exact ho
def Dr (H:ZG) (j:Nat) (l:List Int):Prop:=∃ a,H[j]? = some (drO l a)
theorem Dr.app (h:Dr H j l) (L:ZG):Dr (H++L) j l:=by obtain⟨a,h⟩:=h; exact⟨a,QBm L h⟩
theorem Dr.lt (h:Dr H j l):j<H.length:=by obtain⟨a,h⟩:=h; exact Ql h
theorem Dr.at (h:Dr H j l) (b:Nat) (L:ZG):(mvD H j l b++L)[j]? = some (drO l b):=by
 rw[Vc (by rw[Yc]; exact h.lt)];exact Vo h.lt
theorem Dr.mv (h:Dr H j l) (b c:Nat) (L:ZG):mvD (mvD H j l b++L) j l c=mvD H j l c++L:=by
 unfold mvD;rw[Vm _ _ (by rw[Yc]; exact h.lt),VD]
theorem QyE (ho:H[j]? = some (drO l a)):mvD H j l a=H:=by
 apply V5;intro i;by_cases h:j=i
 . subst h; rw[Vo (Ql ho),ho]
 . rw[Vf h]
variable (ho:H[j]? = some (drO l a)) (ha:a<=l.length) (hl:l.length<4611686018427387904)
include ho ha hl
theorem Qix (n:Nat) (hn:n<=9223372036854775807):Ok Tryz.prog 64 [rp j,i64 n] H (.ret (i64 ((nxD l a n).1:Nat))) (mvD H j l (nxD l a n).2):=ok64 ho ha hl n hn
theorem QiK {v:Nat} (hv:1<=v) (h3:v<=3):Ok Tryz.prog 121 [rp j,i64 v] H (.ret (st (B (vN (nxD l a v).1)))) (mvD H j l (nxD l a v).2):=by
 refine Qz hm Tryz.func121 c121 (by simp[rp]) λhcl => ?_;have hx:=Qad (l:=l) (a:=a) hv;simp[i121,r121];refine Qc (Qix ho ha hl v (by omega)) ?_;simp;refine Qc (Qeo (by omega)) ?_;simp[vN,QX,dg];exact Qj
theorem ok69 {v:Nat} (hv:1<=v) (h3:v<=3):Ok Tryz.prog 69 [rp j,i64 v] H (.ret (st (B (exB (gx l v 8 a).1)))) (mvD H j l (gx l v 8 a).2):=by
 refine Qz hm Tryz.func69 c69 (by simp[rp]) λhcl => ?_;have h1:=QiK ho ha hl hv h3;have h2:=QiK (Qlw ho _) (QW ha) hl hv h3 (a:=(nxD l a v).2);have h37:=Qix (Qlw ho _) (QW (QW ha)) hl 8 (by omega) (a:=(nxD l (nxD l a v).2 v).2);have hk:=Qad (l:=l) (a:=(nxD l (nxD l a v).2 v).2) (n:=8) (by omega);simp only[Qri]at h2 h37;unfold exB gx;generalize nxD l (nxD l (nxD l a v).2 v).2 8=kk at *;generalize nxD l (nxD l a v).2 v=yy at *;generalize nxD l a v=xx at *;obtain⟨k,a3⟩:=kk;obtain⟨y,a2⟩:=yy;obtain⟨x,a1⟩:=xx;simp only at *;have lx:(vN x).length=2:=rfl;have ly:(vN y).length=2:=rfl;generalize vN x=tx at *;generalize vN y=ty at *;simp[i69,r69];refine Qc h1 ?_;simp;refine Qc h2 ?_;simp;refine Qc h37 ?_;have hk8:k=0\/k=1\/k=2\/k=3\/k=4\/k=5\/k=6\/k=7:=by omega
 rcases hk8 with rfl|rfl|rfl|rfl|rfl|rfl|rfl|rfl
 all_goals
  simp[exT,QX,lx,ly];exact Qj
theorem QxB {v:Nat} (hv:1<=v) (h3:v<=3):Ok Tryz.prog 122 [rp j,i64 v] H (.ret (st (B (cdB (gx l v 4 a).1)))) (mvD H j l (gx l v 4 a).2):=by
 refine Qz hm Tryz.func122 c122 (by simp[rp]) λhcl => ?_;have h1:=QiK ho ha hl hv h3;have h2:=QiK (Qlw ho _) (QW ha) hl hv h3 (a:=(nxD l a v).2);have h37:=Qix (Qlw ho _) (QW (QW ha)) hl 4 (by omega) (a:=(nxD l (nxD l a v).2 v).2);have hk:=Qad (l:=l) (a:=(nxD l (nxD l a v).2 v).2) (n:=4) (by omega);simp only[Qri]at h2 h37;unfold cdB gx;generalize nxD l (nxD l (nxD l a v).2 v).2 4=kk at *;generalize nxD l (nxD l a v).2 v=yy at *;generalize nxD l a v=xx at *;obtain⟨k,a3⟩:=kk;obtain⟨y,a2⟩:=yy;obtain⟨x,a1⟩:=xx;simp only at *;have lx:(vN x).length=2:=rfl;have ly:(vN y).length=2:=rfl;generalize vN x=tx at *;generalize vN y=ty at *;simp[i122,r122];refine Qc h1 ?_;simp;refine Qc h2 ?_;simp;refine Qc h37 ?_;have hk4:k=0\/k=1\/k=2\/k=3:=by omega
 rcases hk4 with rfl|rfl|rfl|rfl
 all_goals
  simp[cdT,QX,lx,ly];exact Qj
end
section
variable {H:ZG} {j:Nat} {l:List Int} {a:Nat}
variable (hd:Dr H j l) (ha:a<=l.length) (hl:l.length<4611686018427387904) (L:ZG)
include hd ha hl
theorem Qb3 (n:Nat) (hn:n<=9223372036854775807):Ok Tryz.prog 64 [rp j,i64 n] (mvD H j l a++L) (.ret (i64 ((nxD l a n).1:Nat))) (mvD H j l (nxD l a n).2++L):=by
 have:=Qix (hd.at a L) ha hl n hn; rwa [hd.mv]at this
theorem go71 {v:Nat} (hv:1<=v) (h3:v<=3):Ok Tryz.prog 121 [rp j,i64 v] (mvD H j l a++L) (.ret (st (B (vN (nxD l a v).1)))) (mvD H j l (nxD l a v).2++L):=by
 have:=QiK (hd.at a L) ha hl hv h3; rwa [hd.mv]at this
theorem go42 {v:Nat} (hv:1<=v) (h3:v<=3):Ok Tryz.prog 69 [rp j,i64 v] (mvD H j l a++L) (.ret (st (B (exB (gx l v 8 a).1)))) (mvD H j l (gx l v 8 a).2++L):=by
 have:=ok69 (hd.at a L) ha hl hv h3; rwa [hd.mv]at this
theorem Qn1 {v:Nat} (hv:1<=v) (h3:v<=3):Ok Tryz.prog 122 [rp j,i64 v] (mvD H j l a++L) (.ret (st (B (cdB (gx l v 4 a).1)))) (mvD H j l (gx l v 4 a).2++L):=by
 have:=QxB (hd.at a L) ha hl hv h3; rwa [hd.mv]at this
end
section
variable {c:Cx} {d:Nat}
def Red (c:Cx) (d:Nat) (F:Rd->Ex×Rd) (l:List TK) (e:Ex) (st:List TK->Prop):Prop :=
 ∀ r L,Sta c d r (l++L)->st L->Sta c d (F r).2 L/\(F r).1.er=e.er
variable {F:Rd->Ex×Rd} {l la lb:List TK} {e a b:Ex} {st sa sb:List TK->Prop} {ops:List (ZE×Int)}
theorem Red.mono {st':List TK->Prop} (h:Red c d F l e st) (hs:∀ L,st' L->st L):Red c d F l e st':=λr L h1 h2=>h r L h1 (hs L h2)
theorem Red.pass (h:Red c d F l e st):Red c d (QS c ops F) l e (λL=>st L/\Qb9 ops L):=by
 intro r L hs ⟨h1,h2⟩;obtain⟨hg,he⟩:=h r L hs h1;unfold QS;rw[Qd6 (hg.none h2)]; exact⟨hg,he⟩
theorem Red.op {k:TK} {s:ZE} {op:Int} (ha:Red c d F la a sa) (hb:Red c d F lb b sb) (hk:k=.sg s\/k=.wd s) (hf:(ops.find? λo=>decide (s=o.1)).map (·.2)=.some op) (hs:∀ L,sa (k::L)) :
 Red c d (QS c ops F) (la++k::lb) (.mk op 0 [] [a,b] 0) (λL=>sb L/\Qb9 ops L):=by
 intro r L h ⟨h1,h2⟩;unfold QS;rw[VC]at h;obtain⟨hg,he⟩:=ha r _ h (hs _);have hpos:0<c.ts.length:=by obtain⟨hh,_⟩:=hg.rem.lt; omega
 obtain⟨n,hn⟩:∃ n,c.ts.length=n+1:=⟨c.ts.length-1,by omega⟩;rw[hn,QaC,hg.some hk hf];simp only;obtain⟨hg2,he2⟩:=hb _ L hg.next h1
 rw[Qd6 (hg2.none h2)];refine⟨hg2,?_⟩;simp only[Ex.er,Ex.erL,he,he2]
theorem Red.cpass (h:Red c d F l e st):Red c d (Qar c F) l e (λL=>st L/\Qb9 Qa2 L):=by
 intro r L hs ⟨h1,h2⟩;obtain⟨hg,he⟩:=h r L hs h1;unfold Qar;rw[hg.none h2]; exact⟨hg,he⟩
theorem Red.cop {k:TK} {s:ZE} {op:Int} (ha:Red c d F la a sa) (hb:Red c d F lb b sb) (hk:k=.sg s\/k=.wd s) (hf:(Qa2.find? λo=>decide (s=o.1)).map (·.2)=.some op) (hs:∀ L,sa (k::L)) :
 Red c d (Qar c F) (la++k::lb) (.mk op 0 [] [a,b] 0) sb:=by
 intro r L h h1;unfold Qar;rw[VC]at h;obtain⟨hg,he⟩:=ha r _ h (hs _);rw[hg.some hk hf];simp only;obtain⟨hg2,he2⟩:=hb _ L hg.next h1
 refine⟨hg2,?_⟩;simp only[Ex.er,Ex.erL,he,he2]
theorem QjQ {r:Rd} {L:List TK} {k:TK} {s:ZE} (h:Sta c (d+1) r (k::L)) (hk:pk (k::L) s=true):Sta c d (Qr c s r).2 L:=by
 have hv:=h.v;have hd:=h.d;unfold Qr;rw[h.peek,Zn (by rintro⟨_,h2⟩; omega)];have hw:IntKind.i64.wrap (r.v+1)=r.v+1:=Qah (by omega) (by omega);have hu:Sta c d (upR r) (k::L):=⟨h.e,h.rem,by show IntKind.i64.wrap (r.v+1)+(d:Int)=40; rw[hw]; omega,by omega⟩;exact(hu.take hk).2
theorem dnS {r:Rd} {L:List TK} (h:Sta c d r L) (hd:d+1<=40):Sta c (d+1) (dnR r) L:=by
 have hv:=h.v;have hw:IntKind.i64.wrap (r.v-1)=r.v-1:=Qah (by omega) (by omega);exact⟨h.e,h.rem,by show IntKind.i64.wrap (r.v-1)+((d+1:Nat):Int)=40; rw[hw]; omega,hd⟩
variable {cmp ntP orP facP:Rd->Ex×Rd}
theorem Red.npass (h:Red c d cmp l e st) (hn:∀ L,pk (l++L) [110,111,116]=false):Red c d (Qat c cmp ntP) l e st:=by
 intro r L hs h1;unfold Qat;rw[hs.peek,Zn (by rw[hn L]; decide)];exact h r L hs h1
theorem Red.nop (ha:Red c d ntP la a sa):Red c (d+1) (Qat c cmp ntP) (.wd [110,111,116]::la) (.mk 4 0 [] [a] 0) sa:=by
 intro r L hs h1;have ho:=QjQ (s:=[110,111,116]) hs rfl;unfold Qat;have hp:Qd c [110,111,116] r=true:=by rw[hs.peek]; rfl
 rw[Zo hp,Zn (λh=>h ho.e)];obtain⟨hg,he⟩:=ha _ L ho h1;exact⟨dnS hg hs.d,by simp only[Ex.er,Ex.erL,he]⟩
theorem Red.name {w:ZE} (hw:w∉Qa0):Red c d (QF c orP facP) [.wd w] (.mk 2 0 w [] 0) (λ_=>True):=by
 intro r L hs _;have hs:Sta c d r (.wd w::L):=hs;unfold QF;rw[Zn (λh=>h hs.e),Zo (by rw[hs.free]; simpa[Qem]using hw)];obtain⟨h1,h2⟩:=hs.word hw;rw[h1];exact⟨h2,by simp only[Ex.er,Ex.erL]⟩
theorem Red.neg (ha:Red c d facP la a sa):Red c (d+1) (QF c orP facP) (.sg [45]::la) (.mk 3 0 [] [a] 0) sa:=by
 intro r L hs h1;have ho:=QjQ (s:=[45]) hs rfl;unfold QF;have hp:Qd c [45] r=true:=by rw[hs.peek]; rfl
 have hf:QU c r=false:=by rw[hs.free]; rfl
 rw[Zn (λh=>h hs.e),Zn (by rw[hf]; decide),Zo hp,Zn (λh=>h ho.e)];obtain⟨hg,he⟩:=ha _ L ho h1;exact⟨dnS hg hs.d,by simp only[Ex.er,Ex.erL,he]⟩
theorem Red.par (ha:Red c d orP la a sa) (hs:∀ L,sa (.sg [41]::L)):Red c (d+1) (QF c orP facP) (.sg [40]::(la++[.sg [41]])) a (λ_=>True):=by
 intro r L h _;have ho:=QjQ (s:=[40]) h rfl;unfold QF;have hp:Qd c [45] r=false:=by rw[h.peek]; rfl
 have hp2:Qd c [40] r=true:=by rw[h.peek]; rfl
 have hf:QU c r=false:=by rw[h.free]; rfl
 rw[Zn (λh2=>h2 h.e),Zn (by rw[hf]; decide),Zn (by rw[hp]; decide),Zo hp2,Zn (λh2=>h2 ho.e)];have ho:Sta c d (Qr c [40] r).2 (la++(.sg [41]::L)):=by have:=ho; rwa [show(la++[TK.sg [41]]).append L=la++(.sg [41]::L)from VC ..]at this
 obtain⟨hg,he⟩:=ha _ _ ho (hs _);exact⟨dnS (hg.take rfl).2 h.d,he⟩
theorem Red.num {n:Nat}:Red c d (QF c orP facP) [.nm n] (.mk 1 n [] [] 0) (λ_=>True):=by
 intro r L hs _;have hs:Sta c d r (.nm n::L):=hs;have hfd:QaN.find? (λw=>Qd c w.1 r)=none:=by
  rw[Y7];intro w _; rw[hs.peek]; exact Bool.false_ne_true
 unfold QF;have hp:Qd c [45] r=false:=by rw[hs.peek]; rfl
 have hp2:Qd c [40] r=false:=by rw[hs.peek]; rfl
 have hf:QU c r=false:=by rw[hs.free]; rfl
 rw[Zn (λh2=>h2 hs.e),Zn (by rw[hf]; decide),Zn (by rw[hp]; decide),Zn (by rw[hp2]; decide),hfd];obtain⟨h1,h2⟩:=hs.numb;rw[h1];exact⟨h2,by simp only[Ex.er,Ex.erL]⟩
def cmm:List (List TK)->List TK
 |[]=>[]
 |x::r=>.sg [44]::(x++cmm r)
inductive QgX (c:Cx) (d:Nat) (F:Rd->Ex×Rd) (sa:List TK->Prop):List (List TK)->List Ex->Prop
 |nil:QgX c d F sa [] []
 |cons {x:List TK} {e:Ex} {xs:List (List TK)} {es:List Ex}:Red c d F x e sa->QgX c d F sa xs es->QgX c d F sa (x::xs) (e::es)
theorem Qwq {xs:List (List TK)} {es:List Ex} (hr:QgX c d orP sa xs es) (h1:∀ L,sa (.sg [41]::L)) (h2:∀ L,sa (.sg [44]::L)) :
 ∀ (acc:List Ex) (r:Rd) (L:List TK),Sta c d r (cmm xs++.sg [41]::L) ->
  ∃ l,(QH c orP xs.length acc r).1=some (acc++l)/\Sta c d (QH c orP xs.length acc r).2 (.sg [41]::L)/\Ex.erL l=Ex.erL es:=by
 induction hr with
 |nil=>intro acc r L h; exact⟨[],by simp[QH],h,rfl⟩
 |@cons x e xs es hx hxs ih =>
  intro acc r L h;obtain⟨ht1,ht⟩:=Sta.take (k:=.sg [44]) (s:=[44]) (L:=x++(cmm xs++.sg [41]::L)) (by simpa[cmm]using h) rfl;rw[Vh,QH,Zn (λh=>h ht.e)];have hnx:sa (cmm xs++.sg [41]::L):=by
   cases xs with
   |nil=>exact h1 _
   |cons y ys=>exact h2 _
  obtain⟨hg,he⟩:=hx _ _ ht hnx;obtain⟨l,g1,g2,g3⟩:=ih (acc++[(orP (Qh c [44] r).2).1]) _ L hg;refine⟨(orP (Qh c [44] r).2).1::l,?_,g2,?_⟩
  . rw[g1]; simp
  . simp only[Ex.erL,g3];rw[he]
theorem Red.call {w:ZE} {op:Int} {x:List TK} {xs:List (List TK)} {es:List Ex} (hw:(w,op,xs.length)∈QaN) (ha:Red c d orP x a sa)
 (hr:QgX c d orP sa xs es) (h1:∀ L,sa (.sg [41]::L)) (h2:∀ L,sa (.sg [44]::L)) :
 Red c (d+1) (QF c orP facP) (.wd w::.sg [40]::(x++cmm xs++[.sg [41]])) (.mk op 0 [] (a::es) 0) (λ_=>True):=by
 intro r L h _;have h:Sta c (d+1) r (.wd w::.sg [40]::(x++(cmm xs++.sg [41]::L))):=by simpa using h
 have hwr:w∈Qa0/\w≠[45]/\w≠[40]/\QaN.find? (λv=>decide (w=v.1))=some (w,op,xs.length):=by
  generalize xs.length=m at hw;simp only[QaN,Vd,Vu,Zt,Prod.mk.injEq]at hw;rcases hw with ⟨rfl,rfl,rfl⟩|⟨rfl,rfl,rfl⟩|⟨rfl,rfl,rfl⟩<;>decide
 obtain⟨k1,k2,k3,k4⟩:=hwr;have hfd:QaN.find? (λv=>Qd c v.1 r)=some (w,op,xs.length):=by
  have e:(λv:ZE×Int×Nat=>Qd c v.1 r)=λv=>decide (w=v.1):=by funext v; rw[h.peek]; rfl
  rw[e]; exact k4
 unfold QF;rw[Zn (λh2=>h2 h.e),Zn (by rw[h.free]; simpa[Qem]using k1),h.peek,h.peek,Zn (by simp[pk,k2]),Zn (by simp[pk,k3]),hfd];simp only;unfold Qcf;simp only;have ht:=(h.take (s:=w) (by simp[pk])).2;have ho:=QjQ (s:=[40]) ht rfl;rw[Zn (λh=>h ho.e)];generalize (Qr c [40] (Qh c w r).2).2=r2 at ho ⊢;have hnx:sa (cmm xs++.sg [41]::L):=by
  cases xs with
  |nil=>exact h1 _
  |cons y ys=>exact h2 _
 obtain⟨hg,he⟩:=ha r2 _ ho hnx;obtain⟨l,g1,g2,g3⟩:=Qwq hr h1 h2 [(orP r2).1] _ L hg;split
 . rename_i r3 hq; rw[hq]at g1; cases g1
 . rename_i l' r3 hq;rw[hq]at g1 g2;obtain rfl:=Option.some.inj g1;refine⟨dnS (g2.take rfl).2 h.d,?_⟩;simp only[Ex.er,Vr,VA,Ex.erL,he,g3]
def q1 (c:Cx) (d:Nat):Rd->Ex×Rd:=QS c QaV (lv c d).fac
def q2 (c:Cx) (d:Nat):Rd->Ex×Rd:=QS c Qa6 (q1 c d)
def q3 (c:Cx) (d:Nat):Rd->Ex×Rd:=Qar c (q2 c d)
def q5 (c:Cx) (d:Nat):Rd->Ex×Rd:=QS c Qbx (lv c d).nt
theorem ntq (d:Nat):∃ N,(lv c d).nt=Qat c (q3 c d) N:=by
 cases d with
 |zero=>exact⟨_,rfl⟩
 |succ d=>exact⟨_,rfl⟩
def Qfx (L:List TK):Prop:=Qb9 QaV L/\Qb9 Qa6 L/\Qb9 Qa2 L/\Qb9 Qbx L/\Qb9 orO L
theorem noq {ops:List (ZE×Int)} {k:TK} {s:ZE} (hk:k=.sg s\/k=.wd s) (h:(ops.all λo=>decide (s≠o.1))=true) (L:List TK):Qb9 ops (k::L):=by
 intro o ho;have h2:=Vn.1 h o ho;simp only[ne_eq,decide_not,VM,ZB]at h2;rcases hk with rfl|rfl<;>simp[pk,h2]
theorem QcO {s:ZE} (h:([QaV,Qa6,Qa2,Qbx,orO].all λl=>l.all λo=>decide (s≠o.1))=true) {k:TK} (hk:k=.sg s\/k=.wd s) (L:List TK):Qfx (k::L):=by
 have h2:=Vn.1 h;exact⟨noq hk (h2 QaV (by simp)) L,noq hk (h2 Qa6 (by simp)) L,noq hk (h2 Qa2 (by simp)) L,noq hk (h2 Qbx (by simp)) L,noq hk (h2 orO (by simp)) L⟩
abbrev s1 (L:List TK):Prop:=True/\Qb9 QaV L
abbrev s2 (L:List TK):Prop:=s1 L/\Qb9 Qa6 L
abbrev s3 (L:List TK):Prop:=s2 L/\Qb9 Qa2 L
theorem rq1 (h:Red c d (lv c d).fac l e (λ_=>True)):Red c d (q1 c d) l e s1:=h.pass
theorem rq2 (h:Red c d (q1 c d) l e s1):Red c d (q2 c d) l e s2:=h.pass
theorem rq3 (h:Red c d (q2 c d) l e s2):Red c d (q3 c d) l e s3:=h.cpass
theorem rq4 {st:List TK->Prop} (h:Red c d (q3 c d) l e st) (hn:∀ L,pk (l++L) [110,111,116]=false):Red c d (lv c d).nt l e st:=by
 obtain⟨N,hN⟩:=ntq (c:=c) d;rw[hN]; exact h.npass hn
theorem rq6 {st:List TK->Prop} (h:Red c d (lv c d).nt l e st):Red c d (Q6 c (lv c d)) l e (λL=>(st L/\Qb9 Qbx L)/\Qb9 orO L):=h.pass.pass
def Whole (c:Cx) (d:Nat) (l:List TK) (e:Ex):Prop:=Red c d (Q6 c (lv c d)) l e Qfx
theorem wh3 {st:List TK->Prop} (h:Red c d (q3 c d) l e st) (hs:∀ L,Qfx L->st L) (hn:∀ L,pk (l++L) [110,111,116]=false):Whole c d l e :=
 (rq6 (rq4 h hn)).mono λL hL=>⟨⟨hs L hL,hL.2.2.2.1⟩,hL.2.2.2.2⟩
theorem wh2 (h:Red c d (q2 c d) l e s2) (hn:∀ L,pk (l++L) [110,111,116]=false):Whole c d l e:=wh3 (rq3 h) (λ_ hL=>⟨⟨⟨trivial,hL.1⟩,hL.2.1⟩,hL.2.2.1⟩) hn
theorem wh0 (h:Red c d (lv c d).fac l e (λ_=>True)) (hn:∀ L,pk (l++L) [110,111,116]=false):Whole c d l e:=wh2 (rq2 (rq1 h)) hn
theorem QyH {w:ZE} (hw:w∉Qa0):Red c d (lv c d).fac [.wd w] (.mk 2 0 w [] 0) (λ_=>True):=by
 cases d with
 |zero=>exact Red.name hw
 |succ d=>exact Red.name hw
theorem Qc4 {n:Nat}:Red c d (lv c d).fac [.nm n] (.mk 1 n [] [] 0) (λ_=>True):=by
 cases d with
 |zero=>exact Red.num
 |succ d=>exact Red.num
end
end Go.Proofs.YtmkdpmfhlfhjkaaGreatDoor
