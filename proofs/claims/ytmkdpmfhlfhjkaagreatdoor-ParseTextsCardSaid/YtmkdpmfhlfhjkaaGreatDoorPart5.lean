/-
  Steps of the proof: contracts of functions and plain facts that the statement rests on.
-/
import Derived.Test.YtmkdpmfhlfhjkaaGreatDoorPart4
import Derived.Test.YtmkdpmfhlfhjkaaGreatDoorPart3
set_option linter.all false
namespace Go.Proofs.YtmkdpmfhlfhjkaaGreatDoor
open Go.Ab
section
variable {H:List AO} {c:Cx} {r:Rd} {j:Nat} {F:Rd->Ex×Rd}
def begS (c:Cx) (r:Rd):Bool:=freeR c r||peekR c [100,101,97,108] r||peekR c [116,117,114,110] r||peekR c [101,110,100] r
theorem fullR_eq (l:List StageP):fullR c l r=if l.length=100∧begS c r=true then failR c 12 r else r:=rfl
theorem stage_no (hst:Still F) (he:r.e=0) (hb:begS c r=false):(stageR c F r).2=failR c 11 r:=by
 unfold begS at hb
 simp only[Bool.or_eq_false_iff]at hb
 obtain⟨⟨⟨h1,h2⟩,h3⟩,h4⟩:=hb
 have hl:labelR c r=([],r):=by unfold labelR; rw[if_neg (by simp[h1])]
 have hbad:(failR c 11 r).e≠0:=by simp[failR,he]
 have ht:(takeR c [101,110,100] r).2=failR c 11 r:=by simp[takeR,h4]
 unfold stageR
 simp only[hl]
 rw[if_neg (by simp[h2]),if_neg (by simp[h3])]
 simp only[ht,t2_still _ hbad,exprs_still hst _ hbad]
theorem stages_bad {n:Nat} {l:List StageP} (h:r.e≠0):stagesL c F n l r=(l,r):=by
 cases n with
 | zero=>rfl
 | succ n=>rw[stagesL,if_neg (fun h2=>h h2.1)]
theorem isB (hn:NumT c) (he:r.e=0):decide ((tkR c r).tx∈([[100,101,97,108],[116,117,114,110],[101,110,100]]:List (List UInt8)))=(peekR c [100,101,97,108] r||peekR c [116,117,114,110] r||peekR c [101,110,100] r):=by
 rw[peek_tk hn (s:=[100,101,97,108]) rfl he,peek_tk hn (s:=[116,117,114,110]) rfl he,peek_tk hn (s:=[101,110,100]) rfl he,Bool.eq_iff_iff]
 simp[or_assoc]
def k39:IC:=match l39_1 with | .keep _ a=>a | a=>a
def b39:IC:=match IC.nth 1 k39 with | .blk _ a=>a | a=>a
set_option maxHeartbeats 4000000 in
theorem loop39_1 (hn:NumT c) (h20:c.ts.length≤20000) (hj:j<H.length) {d:Nat} (hF:PdC c 32 [] F d) (hkF:Kp c d F) (hst:Still F) (hnb:Nb c F) {nm:List UInt8} {pl:Int} {vs:List VarP} {N:Nat} {K:XE->Env->List AO->Prop} {res:List StageP×Rd}
 (hexit:res.2.e=0->res.1≠[]->c.ts.length≤res.2.a->Gd c d res.2->∀ env G,env.get 2=rp H.length->env.get 3=rp (H.length+1)->K (.exit 2) env (H.set j (pdO c res.2)++rL H.length nm pl vs res.1 G))
 (hpan:res.2.e≠0->∀ env H',Keep H [j] H'->K (.panic (fltI res.2.e res.2.p)) env H') :
 ∀ (n:Nat) (l:List StageP) (r:Rd) (G:List AO) (env:Env),c.ts.length<r.a+n->l.length≤r.a->stagesL c F n l r=res->Gd c d r->r.e=0->env.get 0=rp j->env.get 2=rp H.length->env.get 3=rp (H.length+1) →
  LI Tryz.prog N drawB l39_1 env (H.set j (pdO c r)++rL H.length nm pl vs l G) K:=by
 have hct:c.ts.length<4611686018427387904:=by omega
 intro n
 induction n with
 | zero=>intro l r G env hna hla hr hg; have:=hg.a; omega
 | succ n ih =>
  intro l r G env hna hla hr hg he h0 h2 h3
  have ha:=hg.a
  rw[stagesL]at hr
  have hcode:l39_1=.keep [0,2,3] (.seq (IC.nth 0 k39) (IC.nth 1 k39)):=rfl
  refine li_go hm hcode ?_
  generalize hK:(fun(x:XE) (env:Env) (H:List AO)=>match x with | .normal=>LI Tryz.prog N drawB l39_1 env H K | x=>K x env H)=K'
  have hKn:∀ env H,K' .normal env H=LI Tryz.prog N drawB l39_1 env H K:=fun env H=>by rw[←hK]
  have hKp:∀ x env H,K' (.panic x) env H=K (.panic x) env H:=fun x env H=>by rw[←hK]
  have hKe:∀ n env H,K' (.exit n) env H=K (.exit n) env H:=fun n env H=>by rw[←hK]
  clear hK
  have e3:∀ L,objCells (H.set j (pdO c r)++L) j 0=pdC c r.a r.v:=fun L=>ocL (H:=H) hj _ 127 L
  have pd1:∀ h,(pdC c r.a r.v)[1]'(h)=i64 r.a:=fun _=>rfl
  have pd0:(pdC c r.a r.v).head?.getD .any=tksV c.ts:=rfl
  by_cases hcond:l=[]∨r.a<c.ts.length
  · rw[if_pos ⟨he,hcond⟩]at hr
    have body:∀ (env:Env),env.get 0=rp j->env.get 2=rp H.length->env.get 3=rp (H.length+1)->X Tryz.prog N drawB (IC.nth 1 k39) env (H.set j (pdO c r)++rL H.length nm pl vs l G) K':=by
     intro env h0 h2 h3
     have h92:=fun L=>ok92 (s1_j hj (pdO c r) L) he
     have h79:=fun L e=>ok79 (s1_j hj (pdO c r) L) e
     have h94:=fun L=>ok94 hn h20 hF hkF hst hnb (s1_j hj (pdO c r) L) hg he
     have hfe:=fullR_eq (c:=c) (r:=r) l
     have hsn:=stage_no (c:=c) (r:=r) hst he
     obtain⟨k1,k2⟩:=stageR_keep (c:=c) hkF r hg
     have k3:=stageR_on (c:=c) hkF hg
     have bad:∀ rf:Rd,rf.e≠0->(stageR c F (fullR c l r)).2=rf->∀ env H',Keep H [j] H'->K (.panic (fltI rf.e rf.p)) env H':=by
      intro rf hf hs env H' hk
      rw[hs,stages_bad hf]at hr
      subst hr
      exact hpan hf _ _ hk
     have f11:(failR c 11 r).e=11∧(failR c 11 r).p=hereR c r:=by simp[failR,he]
     have f12:(failR c 12 r).e=12∧(failR c 12 r).p=hereR c r:=by simp[failR,he]
     have hcode2:IC.nth 1 k39=.blk 3 (.seq (IC.nth 0 b39) (IC.tl 1 b39)):=rfl
     rw[hcode2,X_blk]
     generalize hB:(fun(x:XE) (env:Env) (H:List AO)=>match x with | .exit id=>if id=3 then K' .normal env H else K' (.exit id) env H | x=>K' x env H)=K''
     have hKn':∀ env H,K'' .normal env H=K' .normal env H:=fun env H=>by rw[←hB]
     have hKp':∀ x env H,K'' (.panic x) env H=K' (.panic x) env H:=fun x env H=>by rw[←hB]
     clear hB
     have rest:∀ (env:Env) (G:List AO),begS c r=true->env.get 0=rp j->env.get 2=rp H.length->env.get 3=rp (H.length+1) →
      X Tryz.prog N drawB (IC.tl 1 b39) env (H.set j (pdO c r)++rL H.length nm pl vs l G) K'':=by
      intro env G hb h0 h2 h3
      simp -implicitDefEqProofs[IC.tl,b39,k39,l39_1,IC.nth,h0,h2,h3,rp,rL,pOut]
      by_cases h100:l.length=100
      · have h100':(l.length:Int)=100:=by omega
        simp -implicitDefEqProofs[h0,h2,h3,rp,h100']
        refine call_go (by simpa[rp,pOut]using h79 _ 12) ?_
        simp -implicitDefEqProofs
        rw[hKp',hKp]
        have:=bad (failR c 12 r) (by rw[f12.1]; decide) (by rw[hfe,if_pos ⟨h100,hb⟩]; exact stage_still hst _ (by rw[f12.1]; decide))
        rw[f12.1,f12.2]at this
        exact this _ _ (Keep.of_set (Keep.refl _ _))
      · have h100':¬ (l.length:Int)=100:=by omega
        rw[if_neg (fun h=>h100 h.1)]at hfe
        rw[hfe]at bad hr
        simp -implicitDefEqProofs[h0,h2,h3,rp,h100']
        generalize stageR c F r=x at h94 k1 k2 k3 bad hr
        refine pd_call (by simpa[rp]using h94 _) (fun he1 => ?_) (fun he1 H' hk => ?_)
        · rw[s1_set hj]
          simp -implicitDefEqProofs[h0,h2,h3,rp,stageV,stgsO,rws_len StageP.c_len]
          refine⟨by omega,by omega,?_⟩
          rw[hKn',hKn]
          have k3':=k3 he1
          refine LI.cong ?_ (ih (l++[x.1]) x.2 (G++[⟨x.1.c,78,0,true⟩]) _ (by omega) (by simp; omega) hr k1 he1 ?_ ?_ ?_)
          · simp[rL,pOut,stgsO,rws_app,rws]
          all_goals simp[h0,h2,h3,rp]
        · simp -implicitDefEqProofs
          rw[hKp',hKp]
          exact bad _ he1 rfl _ _ hk.of_set
     generalize IC.tl 1 b39=t1 at rest ⊢
     simp -implicitDefEqProofs[IC.nth,b39,k39,l39_1,h0,h2,h3,rp,rL,pOut]
     refine call_go (by simpa[rp,pOut]using h92 _) ?_
     by_cases hf:freeR c r=true
     · simp -implicitDefEqProofs[h0,h2,h3,rp,hf]
       refine callq_off _ _ _ _ ?_
       simp -implicitDefEqProofs[h0,h2,h3,rp,hf]
       refine Xc rfl (rest _ G (by simp[begS,hf]) ?_ ?_ ?_)
       all_goals simp[h0,h2,h3,rp]
     · rw[Bool.not_eq_true]at hf
       have h93:=ok93 (s1_j hj (pdO c r) (zR::pOut H.length nm pl vs.length l.length::varsO vs::stgsO l::(G++[⟨[st (B [100,101,97,108]),st (B [116,117,114,110]),st (B [101,110,100])],9,0,true⟩]))) (x:=.own (H.length+(G.length+4)) 0 3 1 0) (l:=[[100,101,97,108],[116,117,114,110],[101,110,100]]) (by
        have:=IsS.own1 (H:=H.set j (pdO c r)) (L:=zR::pOut H.length nm pl vs.length l.length::varsO vs::stgsO l::(G++[⟨[st (B [100,101,97,108]),st (B [116,117,114,110]),st (B [101,110,100])],9,0,true⟩])) (k:=G.length+4) (T:=9) (ver:=0) (n:=3) (l:=[[100,101,97,108],[116,117,114,110],[101,110,100]]) (by simp[wds]) rfl
        simpa using this) (by simp)
       rw[isB hn he]at h93
       have hbe:begS c r=(peekR c [100,101,97,108] r||peekR c [116,117,114,110] r||peekR c [101,110,100] r):=by unfold begS; rw[hf]; simp
       rw[←hbe]at h93
       simp -implicitDefEqProofs[h0,h2,h3,rp,hf]
       refine callq_st (r:=bl (begS c r)) (fun _=>by simpa[rp,pOut,SV.strip]using h93) ?_
       cases hb:begS c r with
       | true =>
        simp -implicitDefEqProofs[h0,h2,h3,rp,hf,hb]
        refine Xc ?_ (rest _ (G++[⟨[st (B [100,101,97,108]),st (B [116,117,114,110]),st (B [101,110,100])],9,0,true⟩]) hb ?_ ?_ ?_)
        · simp[rL,pOut]
        all_goals simp[h0,h2,h3,rp]
       | false =>
        simp -implicitDefEqProofs[h0,h2,h3,rp,hf,hb]
        refine call_go (by simpa[rp,pOut]using h79 _ 11) ?_
        simp -implicitDefEqProofs
        rw[hKp',hKp]
        have:=bad (failR c 11 r) (by rw[f11.1]; decide) (by rw[hfe,if_neg (by simp[hb])]; exact hsn hb)
        rw[f11.1,f11.2]at this
        exact this _ _ (Keep.of_set (Keep.refl _ _))
    generalize IC.nth 1 k39=B1 at body ⊢
    by_cases hl0:l=[]
    · subst hl0
      simp -implicitDefEqProofs[IC.nth,k39,l39_1,h0,h2,h3,rp,rL,pOut,e3,pd1,pd0,pd_len]
      exact body _ (by simp[rp]) (by simp[rp]) (by simp[rp])
    · have hlt:=hcond.resolve_left hl0
      have hlt':(r.a:Int)<c.ts.length:=by omega
      simp -implicitDefEqProofs[IC.nth,k39,l39_1,h0,h2,h3,rp,rL,pOut,e3,pd1,pd0,pd_len,hl0,hlt,hlt',tksV]
      exact body _ (by simp[rp]) (by simp[rp]) (by simp[rp])
  · rw[if_neg (fun h=>hcond h.2)]at hr
    have hl0:l≠[]:=fun h=>hcond (.inl h)
    have hge:¬ r.a<c.ts.length:=fun h=>hcond (.inr h)
    have hge':¬ (r.a:Int)<c.ts.length:=by omega
    subst hr
    generalize IC.nth 1 k39=B1
    simp -implicitDefEqProofs[IC.nth,k39,l39_1,h0,h2,h3,rp,rL,pOut,e3,pd1,pd0,pd_len,hl0,hge,hge',tksV]
    rw[hKe]
    refine hexit he hl0 (Nat.not_lt.1 hge) hg _ G ?_ ?_<;>simp[rp]
end
end Go.Proofs.YtmkdpmfhlfhjkaaGreatDoor
namespace Go.Proofs.YtmkdpmfhlfhjkaaGreatDoor
open Go.Ab
section
variable {H:List AO} {c:Cx} {r:Rd} {j:Nat} {F:Rd->Ex×Rd} {nm:List UInt8} {pl:Int}
theorem pcv_rules {o:AO} (hcl:closed (H.set j o)) {vs:List VarP} {ss:List StageP} {z:AO} {G:List AO} :
 Cv H.length (.agg [st (B nm),i64 pl,.own (H.length+2) 0 vs.length 3 vs.length,.own (H.length+3) 0 ss.length 12 ss.length]) (H.set j o++(z::pOut H.length nm pl vs.length ss.length::varsO vs::stgsO ss::G)) (rulesV ⟨nm,pl,vs,ss⟩) (H.set j o):=by
 refine cv_fz (n0:=H.length) 4 hcl (by simp) ?_
 have e1:(rws VarP.c vs).take (vs.length*3)=rws VarP.c vs:=List.take_of_length_le (by rw[rws_len VarP.c_len]; exact Nat.le_refl _)
 have e2:(rws StageP.c ss).take (ss.length*12)=rws StageP.c ss:=List.take_of_length_le (by rw[rws_len StageP.c_len]; exact Nat.le_refl _)
 have m1:∀ L d,(rws VarP.c vs).map (SV.fz H.length [] L (d+1))=rws VarP.c vs:=fun L d=>map_fz_under _ _ _ _ (rws_under (VarP.und _) vs)
 have m2:∀ L d,(rws StageP.c ss).map (SV.fz H.length [] L (d+1))=rws StageP.c ss:=fun L d=>map_fz_under _ _ _ _ (rws_under (StageP.und _) ss)
 simp[rulesV,RulesP.c,varsO,stgsO,rws_len VarP.c_len,rws_len StageP.c_len,e1,e2,m1,m2]
theorem prules_t9 (hj:j<H.length) (hcl:closed H) (he:r.e=0) {vs:List VarP} {ss:List StageP} {G:List AO} {env:Env} {res:RulesP×Rd} (hres:(⟨nm,pl,vs,ss⟩,r)=res) (h2:env.get 2=rp H.length) (h3:env.get 3=rp (H.length+1)) :
 X Tryz.prog Tryz.f39.ntmps drawB (IC.tl 9 i39) env (H.set j (pdO c r)++rL H.length nm pl vs ss G) (FinP H.length r39 (PdV c H j rulesV res)):=by
 subst hres
 simp -implicitDefEqProofs[IC.tl,i39,r39,h2,h3,rp,rL,pOut,zR]
 refine⟨_,_,PdV.got (x:=⟨nm,pl,vs,ss⟩) he rfl rfl rfl,?_⟩
 have hc1:closed (H.set j (pdO c r)):=closed_pd (c:=c) (a:=r.a) (v:=r.v) hcl
 have:=pcv_rules (nm:=nm) (pl:=pl) (vs:=vs) (ss:=ss) (z:=⟨[st (B nm),i64 pl,.own (H.length+2) 0 vs.length 3 vs.length,.own (H.length+3) 0 ss.length 12 ss.length],36,0,true⟩) (G:=G) hc1
 simpa[pOut]using this
theorem prules_t7 (hn:NumT c) (hN:TokN c) (h20:c.ts.length≤20000) (hj:j<H.length) (hcl:closed H) {d:Nat} (hF:PdC c 32 [] F d) (hkF:Kp c d F) (hst:Still F) (hnb:Nb c F) (hg:Gd c d r) (he:r.e=0) {G:List AO} {env:Env} {res:RulesP×Rd}
 (hres:(fun v:List VarP×Rd=>(fun s:List StageP×Rd=>((⟨nm,pl,v.1,s.1⟩,s.2):RulesP×Rd)) (stagesL c F (c.ts.length+1) [] v.2)) (varsL c c.ts.length [] r)=res)
 (h0:env.get 0=rp j) (h2:env.get 2=rp H.length) (h3:env.get 3=rp (H.length+1)) :
 X Tryz.prog Tryz.f39.ntmps drawB (IC.tl 7 i39) env (H.set j (pdO c r)++rL H.length nm pl [] [] G) (FinP H.length r39 (PdV c H j rulesV res)):=by
 have tail:∀ (vs:List VarP) (ss:List StageP) (r:Rd) (G:List AO) (env:Env),r.e=0->(⟨nm,pl,vs,ss⟩,r)=res->env.get 2=rp H.length->env.get 3=rp (H.length+1)->_:=fun vs ss r G env he hr h2 h3=>prules_t9 (c:=c) (r:=r) (G:=G) hj hcl he hr h2 h3
 rw[show IC.tl 7 i39=.seq (IC.nth 7 i39) (IC.tl 8 i39)from rfl,show IC.tl 8 i39=.seq (IC.nth 8 i39) (IC.tl 9 i39)from rfl]
 generalize IC.tl 9 i39=t9 at tail ⊢
 have bad:∀ rf:Rd,rf.e≠0->res.2=rf->∀ H',Keep H [j] H'->PdV c H j rulesV res (.pan (fltI rf.e rf.p)) H':=by
  intro rf hf hs H' hk
  rw[←hs]at hf ⊢
  exact PdV.pan hf hk
 dsimp only at hres
 generalize hv:varsL c c.ts.length [] r=v at hres
 simp -implicitDefEqProofs[IC.nth,i39]
 refine loop39_0 hn hN h20 hj (res:=v) (fun hv0 hgv env G h0 h2 h3 => ?_) (fun hv0 env H' hk => ?_) c.ts.length [] r G env (by omega) (by simp) hv hg he h0 h2 h3
 · simp -implicitDefEqProofs
   generalize hs:stagesL c F (c.ts.length+1) [] v.2=s at hres
   refine loop39_1 hn h20 hj hF hkF hst hnb (res:=s) (fun hs0 _ _ hgs env G h2 h3 => ?_) (fun hs0 env H' hk => ?_) (c.ts.length+1) [] v.2 G env (by omega) (by simp) hs hgv hv0 h0 h2 h3
   · simp -implicitDefEqProofs
     exact tail v.1 s.1 s.2 G env hs0 hres h2 h3
   · simp -implicitDefEqProofs
     exact⟨_,_,bad s.2 hs0 (by rw[←hres]) _ hk,cv_id⟩
 · simp -implicitDefEqProofs
   refine⟨_,_,bad v.2 hv0 ?_ _ hk,cv_id⟩
   rw[←hres,stages_bad hv0]
def rulesT (c:Cx) (F:Rd->Ex×Rd) (r:Rd):RulesP×Rd :=
 let w:=wordR c (t2 c [103,97,109,101] r)
 let n:=nmR c (t2 c [112,108,97,121,101,114,115] (t2 c [59] w.2))
 let v:=varsL c c.ts.length [] (t2 c [59] n.2)
 let s:=stagesL c F (c.ts.length+1) [] v.2
 (⟨w.1,n.1,v.1,s.1⟩,s.2)
set_option maxHeartbeats 2000000 in
theorem prules_t2 (hn:NumT c) (hN:TokN c) (h20:c.ts.length≤20000) (hj:j<H.length) (hcl:closed H) {d:Nat} (hF:PdC c 32 [] F d) (hkF:Kp c d F) (hst:Still F) (hnb:Nb c F) (hg:Gd c d r) (he:r.e=0) {env:Env} {res:RulesP×Rd}
 (hres:rulesT c F r=res) (h0:env.get 0=rp j) (h2:env.get 2=rp H.length) (h3:env.get 3=rp (H.length+1)) :
 X Tryz.prog Tryz.f39.ntmps drawB (IC.tl 2 i39) env (H.set j (pdO c r)++rL H.length [] 0 [] [] []) (FinP H.length r39 (PdV c H j rulesV res)):=by
 have hct:c.ts.length<4611686018427387904:=by omega
 have tail:∀ (nm:List UInt8) (pl:Int) (r:Rd) (G:List AO) (env:Env),Gd c d r->r.e=0->_->env.get 0=rp j->env.get 2=rp H.length->env.get 3=rp (H.length+1)->_:=fun nm pl r G env hg he hr h0 h2 h3=>prules_t7 (nm:=nm) (pl:=pl) (r:=r) (G:=G) (res:=res) hn hN h20 hj hcl hF hkF hst hnb hg he hr h0 h2 h3
 have bad:∀ rf:Rd,rf.e≠0->res.2=rf->∀ H',Keep H [j] H'->PdV c H j rulesV res (.pan (fltI rf.e rf.p)) H':=by
  intro rf hf hs H' hk
  rw[←hs]at hf ⊢
  exact PdV.pan hf hk
 rw[show IC.tl 2 i39=.seq (IC.nth 2 i39) (IC.tl 3 i39)from rfl,show IC.tl 3 i39=.seq (IC.nth 3 i39) (IC.tl 4 i39)from rfl,show IC.tl 4 i39=.seq (IC.nth 4 i39) (IC.tl 5 i39)from rfl,show IC.tl 5 i39=.seq (IC.nth 5 i39) (IC.tl 6 i39)from rfl,show IC.tl 6 i39=.seq (IC.nth 6 i39) (IC.tl 7 i39)from rfl]
 generalize IC.tl 7 i39=t7 at tail ⊢
 unfold rulesT at hres
 dsimp only at hres
 have hw:=want_p (H:=H) (j:=j) (r:=r) (L:=rL H.length [] 0 [] [] [⟨[st (B [103,97,109,101])],9,0,true⟩]) (q:=4) (n:=1) (T:=9) (ver:=0) (l:=[[103,97,109,101]]) hn hct hj (by simp[wds,rL]) rfl (by simp) (by intro s hs; simp at hs; subst hs; rfl) he hg.a
 have hg1:=(t2_keep (c:=c) (d:=d) [103,97,109,101] hg).1
 simp -implicitDefEqProofs[IC.nth,i39,h0,h2,h3,rp,rL,pOut]
 refine pd_call (by simpa[rp,rL,pOut]using hw) (fun he1 => ?_) (fun he1 H' hk => ?_)
 · rw[s1_set hj]
   simp only[wantR1]at he1 ⊢
   generalize t2 c [103,97,109,101] r=r1 at hg1 he1 hres ⊢
   have h88:=fun L=>ok88p (c:=c) (r:=r1) hj (by have:=hg1.a; omega) he1 L false
   simp only[wordF_off]at h88
   have hg2:=(word_keep (c:=c) (d:=d) r1 hg1).1
   simp -implicitDefEqProofs[h0,h2,h3,rp]
   generalize wordR c r1=w at hg2 h88 hres
   refine pd_call (by simpa[rp]using h88 _) (fun he2 => ?_) (fun he2 H' hk => ?_)
   · rw[s1_set hj]
     simp -implicitDefEqProofs[h0,h2,h3,rp]
     have hw:=want_p (H:=H) (j:=j) (r:=w.2) (L:=rL H.length w.1 0 [] [] [⟨[st (B [103,97,109,101])],9,0,true⟩,⟨[st (B [59]),st (B [112,108,97,121,101,114,115])],9,0,true⟩]) (q:=5) (n:=2) (T:=9) (ver:=0) (l:=[[59],[112,108,97,121,101,114,115]]) hn hct hj (by simp[wds,rL]) rfl (by simp) (by intro s hs; simp at hs; rcases hs with rfl | rfl<;>rfl) he2 hg2.a
     have hg3:=(t2_keep (c:=c) (d:=d) [112,108,97,121,101,114,115] (t2_keep (c:=c) (d:=d) [59] hg2).1).1
     refine pd_call (by simpa[rp,rL,pOut]using hw) (fun he3 => ?_) (fun he3 H' hk => ?_)
     · rw[s1_set hj]
       simp only[wantR2]at he3 ⊢
       generalize t2 c [112,108,97,121,101,114,115] (t2 c [59] w.2)=r3 at hg3 he3 hres ⊢
       have h89:=fun L=>ok89p (c:=c) (r:=r3) hj (by have:=hg3.a; omega) he3 L false
       simp only[numF_off]at h89
       have hg4:=(num_keep (c:=c) (d:=d) r3 hg3).1
       simp -implicitDefEqProofs[h0,h2,h3,rp]
       generalize nmR c r3=q at hg4 h89 hres
       refine pd_call (by simpa[rp]using h89 _) (fun he4 => ?_) (fun he4 H' hk => ?_)
       · rw[s1_set hj]
         simp -implicitDefEqProofs[h0,h2,h3,rp]
         have hw:=want_p (H:=H) (j:=j) (r:=q.2) (L:=rL H.length w.1 q.1 [] [] [⟨[st (B [103,97,109,101])],9,0,true⟩,⟨[st (B [59]),st (B [112,108,97,121,101,114,115])],9,0,true⟩,⟨[st (B [59])],9,0,true⟩]) (q:=6) (n:=1) (T:=9) (ver:=0) (l:=[[59]]) hn hct hj (by simp[wds,rL]) rfl (by simp) (by intro s hs; simp at hs; subst hs; rfl) he4 hg4.a
         have hg5:=(t2_keep (c:=c) (d:=d) [59] hg4).1
         refine pd_call (by simpa[rp,rL,pOut]using hw) (fun he5 => ?_) (fun he5 H' hk => ?_)
         · rw[s1_set hj]
           simp only[wantR1]at he5 ⊢
           simp -implicitDefEqProofs[h0,h2,h3,rp]
           refine Xc ?_ (tail w.1 q.1 (t2 c [59] q.2) [⟨[st (B [103,97,109,101])],9,0,true⟩,⟨[st (B [59]),st (B [112,108,97,121,101,114,115])],9,0,true⟩,⟨[st (B [59])],9,0,true⟩] _ hg5 he5 hres ?_ ?_ ?_)
           · simp[rL,pOut]
           all_goals simp[h0,h2,h3,rp]
         · simp -implicitDefEqProofs
           rw[wantR1]at he5
           refine⟨_,_,bad _ he5 ?_ _ hk.of_set,cv_id⟩
           rw[←hres]; simp only[vars_bad he5,stages_bad he5]
       · simp -implicitDefEqProofs
         refine⟨_,_,bad _ he4 ?_ _ hk.of_set,cv_id⟩
         rw[←hres]; simp only[t2_still _ he4,vars_bad he4,stages_bad he4]
     · simp -implicitDefEqProofs
       rw[wantR2]at he3
       refine⟨_,_,bad _ he3 ?_ _ hk.of_set,cv_id⟩
       rw[←hres]; simp only[num_still _ he3,t2_still _ he3,vars_bad he3,stages_bad he3]
   · simp -implicitDefEqProofs
     refine⟨_,_,bad _ he2 ?_ _ hk.of_set,cv_id⟩
     rw[←hres]; simp only[t2_still _ he2,num_still _ he2,vars_bad he2,stages_bad he2]
 · simp -implicitDefEqProofs
   rw[wantR1]at he1
   refine⟨_,_,bad _ he1 ?_ _ hk.of_set,cv_id⟩
   rw[←hres]; simp only[word_still _ he1,t2_still _ he1,num_still _ he1,vars_bad he1,stages_bad he1]
theorem ok39 (hn:NumT c) (hN:TokN c) (h20:c.ts.length≤20000) {d:Nat} (hF:PdC c 32 [] F d) (hkF:Kp c d F) (hst:Still F) (hnb:Nb c F) (ho:H[j]? = some (pdO c r)) (hg:Gd c d r) (he:r.e=0) :
 OkP Tryz.prog 39 [rp j] H (PdV c H j rulesV (rulesT c F r)):=by
 have hj:=getElem?_lt ho
 refine okP_WI hm Tryz.func39 c39 (by simp[rp,SV.under,hj]) fun hcl => ?_
 have tail:∀ env:Env,env.get 0=rp j->env.get 2=rp H.length->env.get 3=rp (H.length+1)->_:=fun env h0 h2 h3=>prules_t2 (r:=r) (res:=rulesT c F r) hn hN h20 hj hcl hF hkF hst hnb hg he rfl h0 h2 h3
 rw[show i39=.seq (IC.nth 0 i39) (.seq (IC.nth 1 i39) (IC.tl 2 i39))from rfl]
 generalize IC.tl 2 i39=t2' at tail ⊢
 refine WI.seq (draw_ok hm) ?_
 simp -implicitDefEqProofs[IC.nth,i39]
 refine WI.seq (draw_ok hm) ?_
 simp -implicitDefEqProofs[IC.nth,i39]
 refine WI.tell (Tell.own0 (j:=H.length+1) (p:=2) (o:=⟨[st (B []),i64 0,nl,nl],36,0,true⟩) (by simp) rfl rfl 75 3) ?_
 refine WI.tell (Tell.own0 (j:=H.length+1) (p:=3) (o:=⟨[st (B []),i64 0,.own (H.length+2) 0 0 3 0,nl],36,0,true⟩) (by simp) rfl rfl 78 12) ?_
 refine WI.cong (H':=H.set j (pdO c r)++rL H.length [] 0 [] [] []) ?_ ?_
 · rw[set_same ho]
   simp[rL,pOut,zR,varsO,stgsO,rws]
 · exact WI.of_X (draw_ok hm) (tail _ (by simp[rp]) (by simp[rp]) (by simp[rp]))
end
end Go.Proofs.YtmkdpmfhlfhjkaaGreatDoor
namespace Go.Proofs.YtmkdpmfhlfhjkaaGreatDoor
open Go.Ab
def ExsOk (l:List Ex):Prop:=l.length<2147483648∧∀ e∈l,e.sm
structure ActP.sm (a:ActP):Prop where
 wh:ExsOk a.wh
 len:a.sets.length<2147483648
 sets:∀ s∈a.sets,s.e.sm
structure StageP.sm (x:StageP):Prop where
 wt:ExsOk x.wt
 seen:x.seen.length<2147483648
 who:ExsOk x.who
 len:x.acts.length<2147483648
 acts:∀ a∈x.acts,a.sm
 pays:ExsOk x.pays
structure RulesP.sm (r:RulesP):Prop where
 vars:r.vars.length<2147483648
 len:r.stages.length<2147483648
 stages:∀ x∈r.stages,x.sm
section
variable {H:List AO}
theorem loop37x {l:List Ex} (hl:l.length<2147483648) (hIH:∀ e∈l,∀ H,Ok Tryz.prog 13 [e.v,e.v] H (.ret (bl true)) H) {N:Nat} {K:XE->Env->List AO->Prop}
 (hexit:∀ env G,K (.exit 0) env (H++G)) :
 ∀ (k i:Nat) (G:List AO) (env:Env),i+k=l.length->env.get 0=exS l->env.get 1=exS l->env.get 5=i64 i →
  LI Tryz.prog N drawB l37_0 env (H++G) K:=by
 intro k
 induction k with
 | zero =>
  intro i G env hi h0 h1 h5
  refine li_go hm l37_0.eq_1 ?_
  have e:i=l.length:=by omega
  subst e
  simp -implicitDefEqProofs[h0,h1,h5,exS]
  exact hexit _ _
 | succ k ih =>
  intro i G env hi h0 h1 h5
  refine li_go hm l37_0.eq_1 ?_
  have hlt:i<l.length:=by omega
  have hlt':(i:Int)<l.length:=by omega
  have hg:=exL_get hlt
  have hlen:=exL_len l
  have h9:=hIH l[i] (List.getElem_mem hlt)
  generalize l[i]=e at hg h9
  simp -implicitDefEqProofs[h0,h1,h5,exS,hlt,hlt',hg,hlen]
  refine⟨by omega,callq_go (r:=bl true) (fun _=>h9 _) ?_⟩
  simp -implicitDefEqProofs[h0,h1,h5,exS,hlt,hlt',hg,hlen]
  refine ih (i+1) G _ (by omega) ?_ ?_ ?_
  all_goals simp[h0,h1,h5,exS,wrap_suc (show i<9223372036854775807 by omega)]
theorem ok37 {l:List Ex} (h:ExsOk l):Ok Tryz.prog 37 [exS l,exS l] H (.ret (bl true)) H:=by
 refine ok_fn hm Tryz.func37 c37 (by simp) fun hcl => ?_
 simp -implicitDefEqProofs[i37,r37,exS]
 refine LI.cong (H':=H++[]) (by simp) ?_
 refine loop37x h.1 (fun e he H=>ok13 e (h.2 e he) H) (fun env G => ?_) l.length 0 [] _ (by omega) ?_ ?_ ?_
 · simp -implicitDefEqProofs
   exact cv_fz 2 hcl rfl (by simp)
 all_goals simp[exS]
def varV (l:List VarP):SV:=.slc (rws VarP.c l) l.length
theorem var_get {l:List VarP} {i:Nat} (h:i<l.length):((rws VarP.c l).drop (i*3)).take 3=l[i].c:=by
 rw[rws_at VarP.c_len h,List.take_left' (VarP.c_len _)]
theorem loop47 {l:List VarP} (hl:l.length<2147483648) {N:Nat} {K:XE->Env->List AO->Prop} (hexit:∀ env G,K (.exit 0) env (H++G)) :
 ∀ (k i:Nat) (G:List AO) (env:Env),i+k=l.length->env.get 0=varV l->env.get 1=varV l->env.get 5=i64 i →
  LI Tryz.prog N drawB l47_0 env (H++G) K:=by
 intro k
 induction k with
 | zero =>
  intro i G env hi h0 h1 h5
  refine li_go hm l47_0.eq_1 ?_
  have e:i=l.length:=by omega
  subst e
  simp -implicitDefEqProofs[h0,h1,h5,varV]
  exact hexit _ _
 | succ k ih =>
  intro i G env hi h0 h1 h5
  refine li_go hm l47_0.eq_1 ?_
  have hlt:i<l.length:=by omega
  have hlt':(i:Int)<l.length:=by omega
  have hg:=var_get hlt
  have hlen:=rws_len VarP.c_len l
  generalize l[i]=e at hg
  simp -implicitDefEqProofs[h0,h1,h5,varV,hlt,hlt',hg,hlen]
  refine⟨by omega,?_⟩
  simp -implicitDefEqProofs[h0,h1,h5,varV,hlt,hlt',hg,hlen,VarP.c]
  refine ih (i+1) G _ (by omega) ?_ ?_ ?_
  all_goals simp[h0,h1,h5,varV,wrap_suc (show i<9223372036854775807 by omega)]
theorem ok47 {l:List VarP} (h:l.length<2147483648):Ok Tryz.prog 47 [varV l,varV l] H (.ret (bl true)) H:=by
 refine ok_fn hm Tryz.func47 c47 (by simp[varV,SV.under,rws_under (VarP.und _)]) fun hcl => ?_
 simp -implicitDefEqProofs[i47,r47,varV]
 refine LI.cong (H':=H++[]) (by simp) ?_
 refine loop47 h (fun env G => ?_) l.length 0 [] _ (by omega) ?_ ?_ ?_
 · simp -implicitDefEqProofs
   exact cv_fz 2 hcl rfl (by simp)
 all_goals simp[varV]
def intV (l:List Int):SV:=.slc (ints l) l.length
theorem loop99 {l:List Int} (hl:l.length<2147483648) {N:Nat} {K:XE->Env->List AO->Prop} (hexit:∀ env G,K (.exit 0) env (H++G)) :
 ∀ (k i:Nat) (G:List AO) (env:Env),i+k=l.length->env.get 0=intV l->env.get 1=intV l->env.get 5=i64 i →
  LI Tryz.prog N drawB l99_0 env (H++G) K:=by
 intro k
 induction k with
 | zero =>
  intro i G env hi h0 h1 h5
  refine li_go hm l99_0.eq_1 ?_
  have e:i=l.length:=by omega
  subst e
  simp -implicitDefEqProofs[h0,h1,h5,intV]
  exact hexit _ _
 | succ k ih =>
  intro i G env hi h0 h1 h5
  refine li_go hm l99_0.eq_1 ?_
  have hlt:i<l.length:=by omega
  have hlt':(i:Int)<l.length:=by omega
  have hg:(ints l)[i]? = some (i64 l[i]):=by simp[ints,hlt]
  have hlen:(ints l).length=l.length:=by simp[ints]
  generalize l[i]=e at hg
  simp -implicitDefEqProofs[h0,h1,h5,intV,hlt,hlt',hg,hlen]
  refine⟨by omega,?_⟩
  simp -implicitDefEqProofs[h0,h1,h5,intV,hlt,hlt',hg,hlen]
  refine ih (i+1) G _ (by omega) ?_ ?_ ?_
  all_goals simp[h0,h1,h5,intV,wrap_suc (show i<9223372036854775807 by omega)]
theorem ok99 {l:List Int} (h:l.length<2147483648):Ok Tryz.prog 99 [intV l,intV l] H (.ret (bl true)) H:=by
 refine ok_fn hm Tryz.func99 c99 (by simp[intV,SV.under,ints_und]) fun hcl => ?_
 simp -implicitDefEqProofs[i99,r99,intV]
 refine LI.cong (H':=H++[]) (by simp) ?_
 refine loop99 h (fun env G => ?_) l.length 0 [] _ (by omega) ?_ ?_ ?_
 · simp -implicitDefEqProofs
   exact cv_fz 2 hcl rfl (by simp)
 all_goals simp[intV]
end
end Go.Proofs.YtmkdpmfhlfhjkaaGreatDoor
namespace Go.Proofs.YtmkdpmfhlfhjkaaGreatDoor
open Go.Ab
section
variable {H:List AO}
theorem set_at {l:List SetP} {i:Nat} (h:i<l.length):(rws SetP.c l)[i*7]? = some (st (B l[i].nm))∧(rws SetP.c l)[i*7+6]? = some (i64 l[i].p)∧((rws SetP.c l).drop (i*7+1)).take 5=l[i].e.c:=by
 refine⟨?_,?_,?_⟩
 · have:=rws_get SetP.len h (t:=0) (by decide)
   rw[Nat.add_zero]at this
   rw[this]; rfl
 · rw[rws_get SetP.len h (t:=6) (by decide)]
   simp[SetP.c]
 · rw[←List.drop_drop,rws_at SetP.len h]
   simp[SetP.c,List.take_append]
theorem loop100 {a:ActP} (ha:a.sm) {N:Nat} {K:XE->Env->List AO->Prop} (hexit:∀ env G,K (.exit 0) env (H++G)) :
 ∀ (k i:Nat) (G:List AO) (env:Env),i+k=a.sets.length->env.get 2=rp H.length->env.get 3=rp (H.length+1)->env.get 5=i64 i →
  LI Tryz.prog N drawB l100_0 env (H++(⟨a.c,89,0,true⟩::⟨a.c,89,0,true⟩::G)) K:=by
 have hlen:=rws_len SetP.len a.sets
 have hb:=ha.len
 intro k
 induction k with
 | zero =>
  intro i G env hi h2 h3 h5
  refine li_go hm l100_0.eq_1 ?_
  have e:i=a.sets.length:=by omega
  subst e
  simp -implicitDefEqProofs[h2,h3,h5,rp,ActP.c]
  exact hexit _ _
 | succ k ih =>
  intro i G env hi h2 h3 h5
  refine li_go hm l100_0.eq_1 ?_
  have hlt:i<a.sets.length:=by omega
  have hlt':(i:Int)<a.sets.length:=by omega
  obtain⟨g0,g6,g1⟩:=set_at hlt
  have hsm:=ha.sets _ (List.getElem_mem hlt)
  generalize a.sets[i]=s at g0 g6 g1 hsm
  have h13:=fun H=>ok13 s.e hsm H
  have gg0:∀ h,(rws SetP.c a.sets)[i*7]'(h)=st (B s.nm):=fun h=>(List.getElem?_eq_some_iff.1 g0).2
  have gg6:∀ h,(rws SetP.c a.sets)[i*7+6]'(h)=i64 s.p:=fun h=>(List.getElem?_eq_some_iff.1 g6).2
  simp -implicitDefEqProofs[h2,h3,h5,rp,ActP.c,hlt,hlt',gg0,g6,g1,hlen]
  refine⟨by omega,by omega,by omega,?_⟩
  refine callq_st (r:=bl true) (fun _=>by simpa[SV.strip,Ex.v]using h13 _) ?_
  simp -implicitDefEqProofs[h2,h3,h5,rp,ActP.c,hlt,hlt',gg0,g6,g1,hlen]
  refine LI.cong (H':=H++(⟨a.c,89,0,true⟩::⟨a.c,89,0,true⟩::G)) rfl (ih (i+1) G _ (by omega) ?_ ?_ ?_)
  all_goals simp[h2,h3,h5,rp,wrap_suc (show i<9223372036854775807 by omega)]
theorem ok100 {a:ActP} (ha:a.sm):Ok Tryz.prog 100 [actV a,actV a] H (.ret (bl true)) H:=by
 have h37:=fun H=>ok37 (H:=H) ha.wh
 refine ok_fn hm Tryz.func100 c100 (by simp[actV,SV.under,ActP.und]) fun hcl => ?_
 simp -implicitDefEqProofs[i100,r100,actV,ActP.c]
 refine⟨rfl,callq_st (r:=bl true) (fun _=>by simpa[SV.strip,exS]using h37 _) ?_⟩
 simp -implicitDefEqProofs
 refine LI.cong (H':=H++(⟨a.c,89,0,true⟩::⟨a.c,89,0,true⟩::[])) rfl ?_
 refine loop100 ha (fun env G => ?_) a.sets.length 0 [] _ (by omega) ?_ ?_ ?_
 · simp -implicitDefEqProofs
   exact cv_fz 2 hcl rfl (by simp)
 all_goals simp[rp]
theorem act_get {l:List ActP} {i:Nat} (h:i<l.length):((rws ActP.c l).drop (i*6)).take 6=l[i].c:=by
 rw[rws_at ActP.c_len h,List.take_left' (ActP.c_len _)]
theorem loop48 {x:StageP} (hx:x.sm) {N:Nat} {K:XE->Env->List AO->Prop} (hexit:∀ env G,env.get 2=rp H.length->env.get 3=rp (H.length+1)->K (.exit 0) env (H++(⟨x.c,78,0,true⟩::⟨x.c,78,0,true⟩::G))) :
 ∀ (k i:Nat) (G:List AO) (env:Env),i+k=x.acts.length->env.get 2=rp H.length->env.get 3=rp (H.length+1)->env.get 5=i64 i →
  LI Tryz.prog N drawB l48_0 env (H++(⟨x.c,78,0,true⟩::⟨x.c,78,0,true⟩::G)) K:=by
 have hlen:=rws_len ActP.c_len x.acts
 have hb:=hx.len
 intro k
 induction k with
 | zero =>
  intro i G env hi h2 h3 h5
  refine li_go hm l48_0.eq_1 ?_
  have e:i=x.acts.length:=by omega
  subst e
  simp -implicitDefEqProofs[h2,h3,h5,rp,StageP.c]
  exact hexit _ G (by simp[h2,rp]) (by simp[h3,rp])
 | succ k ih =>
  intro i G env hi h2 h3 h5
  refine li_go hm l48_0.eq_1 ?_
  have hlt:i<x.acts.length:=by omega
  have hlt':(i:Int)<x.acts.length:=by omega
  have hg:=act_get hlt
  have hsm:=hx.acts _ (List.getElem_mem hlt)
  generalize x.acts[i]=a at hg hsm
  have h100:=fun H=>ok100 (H:=H) hsm
  simp -implicitDefEqProofs[h2,h3,h5,rp,StageP.c,hlt,hlt',hg,hlen]
  refine⟨by omega,callq_go (r:=bl true) (fun _=>by simpa[actV]using h100 _) ?_⟩
  simp -implicitDefEqProofs[h2,h3,h5,rp,StageP.c,hlt,hlt',hg,hlen]
  refine LI.cong (H':=H++(⟨x.c,78,0,true⟩::⟨x.c,78,0,true⟩::G)) rfl (ih (i+1) G _ (by omega) ?_ ?_ ?_)
  all_goals simp[h2,h3,h5,rp,wrap_suc (show i<9223372036854775807 by omega)]
set_option maxHeartbeats 2000000 in
theorem ok48 {x:StageP} (hx:x.sm):Ok Tryz.prog 48 [stageV x,stageV x] H (.ret (bl true)) H:=by
 have h37w:=fun H=>ok37 (H:=H) hx.wt
 have h37o:=fun H=>ok37 (H:=H) hx.who
 have h37p:=fun H=>ok37 (H:=H) hx.pays
 have h99:=fun H=>ok99 (H:=H) hx.seen
 refine ok_fn hm Tryz.func48 c48 (by simp[stageV,SV.under,StageP.und]) fun hcl => ?_
 simp -implicitDefEqProofs[i48,r48,stageV,StageP.c]
 refine⟨⟨rfl,rfl,rfl⟩,callq_st (r:=bl true) (fun _=>by simpa[SV.strip,intV]using h99 _) ?_⟩
 simp -implicitDefEqProofs
 refine LI.cong (H':=H++(⟨x.c,78,0,true⟩::⟨x.c,78,0,true⟩::[])) rfl ?_
 refine loop48 hx (fun env G h2 h3 => ?_) x.acts.length 0 [] _ (by omega) ?_ ?_ ?_
 · simp -implicitDefEqProofs[h2,h3,rp,StageP.c]
   refine call_go (h37w _) ?_
   simp -implicitDefEqProofs[h2,h3,rp]
   refine callq_st (r:=bl true) (fun _=>by simpa[SV.strip,exS]using h37o _) ?_
   simp -implicitDefEqProofs[h2,h3,rp]
   refine callq_st (r:=bl true) (fun _=>by simpa[SV.strip,exS]using h37p _) ?_
   simp -implicitDefEqProofs
   exact cv_fz 2 hcl rfl (by simp)
 all_goals simp[rp]
theorem stage_get {l:List StageP} {i:Nat} (h:i<l.length):((rws StageP.c l).drop (i*12)).take 12=l[i].c:=by
 rw[rws_at StageP.c_len h,List.take_left' (StageP.c_len _)]
theorem loop16 {r:RulesP} (hx:r.sm) {N:Nat} {K:XE->Env->List AO->Prop} (hexit:∀ env G,K (.exit 0) env (H++G)) :
 ∀ (k i:Nat) (G:List AO) (env:Env),i+k=r.stages.length->env.get 2=rp H.length->env.get 3=rp (H.length+1)->env.get 5=i64 i →
  LI Tryz.prog N drawB l16_0 env (H++(⟨r.c,36,0,true⟩::⟨r.c,36,0,true⟩::G)) K:=by
 have hlen:=rws_len StageP.c_len r.stages
 have hb:=hx.len
 intro k
 induction k with
 | zero =>
  intro i G env hi h2 h3 h5
  refine li_go hm l16_0.eq_1 ?_
  have e:i=r.stages.length:=by omega
  subst e
  simp -implicitDefEqProofs[h2,h3,h5,rp,RulesP.c]
  exact hexit _ _
 | succ k ih =>
  intro i G env hi h2 h3 h5
  refine li_go hm l16_0.eq_1 ?_
  have hlt:i<r.stages.length:=by omega
  have hlt':(i:Int)<r.stages.length:=by omega
  have hg:=stage_get hlt
  have hsm:=hx.stages _ (List.getElem_mem hlt)
  generalize r.stages[i]=a at hg hsm
  have h48:=fun H=>ok48 (H:=H) hsm
  simp -implicitDefEqProofs[h2,h3,h5,rp,RulesP.c,hlt,hlt',hg,hlen]
  refine⟨by omega,callq_go (r:=bl true) (fun _=>by simpa[stageV]using h48 _) ?_⟩
  simp -implicitDefEqProofs[h2,h3,h5,rp,RulesP.c,hlt,hlt',hg,hlen]
  refine LI.cong (H':=H++(⟨r.c,36,0,true⟩::⟨r.c,36,0,true⟩::G)) rfl (ih (i+1) G _ (by omega) ?_ ?_ ?_)
  all_goals simp[h2,h3,h5,rp,wrap_suc (show i<9223372036854775807 by omega)]
theorem rules_und (n:Nat) (r:RulesP):SV.underL n r.c=true:=by
 simp[RulesP.c,SV.underL,SV.under,rws_under (VarP.und _),rws_under (StageP.und _)]
theorem ok16 {r:RulesP} (hr:r.sm):Ok Tryz.prog 16 [.agg r.c,.agg r.c] H (.ret (bl true)) H:=by
 have h47:=fun H=>ok47 (H:=H) hr.vars
 refine ok_fn hm Tryz.func16 c16 (by simp[SV.under,rules_und]) fun hcl => ?_
 simp -implicitDefEqProofs[i16,r16,RulesP.c]
 refine callq_st (r:=bl true) (fun _=>by simpa[SV.strip,varV]using h47 _) ?_
 simp -implicitDefEqProofs
 refine LI.cong (H':=H++(⟨r.c,36,0,true⟩::⟨r.c,36,0,true⟩::[])) rfl ?_
 refine loop16 hr (fun env G => ?_) r.stages.length 0 [] _ (by omega) ?_ ?_ ?_
 · simp -implicitDefEqProofs
   exact cv_fz 2 hcl rfl (by simp)
 all_goals simp[rp]
end
end Go.Proofs.YtmkdpmfhlfhjkaaGreatDoor
namespace Go.Proofs.YtmkdpmfhlfhjkaaGreatDoor
open Go.Ab
section
variable {c:Cx} {F:Rd->Ex×Rd}
theorem optR_sm (hF:∀ r,(F r).1.sm) (s:List UInt8) (r:Rd):ExsOk (optR c F s r).1:=by
 unfold optR
 split
 · exact⟨by simp,fun e he=>by simp at he; subst he; exact hF _⟩
 · exact⟨by simp,fun e he=>by simp at he⟩
theorem setsL_sm (hF:∀ r,(F r).1.sm):∀ (n:Nat) (l:List SetP) (r:Rd),(∀ s∈l,s.e.sm)->(setsL c F n l r).1.length≤l.length+n∧∀ s∈(setsL c F n l r).1,s.e.sm
 | 0,l,r,h=>⟨by simp[setsL],h⟩
 | n+1,l,r,h=>by
  rw[setsL]
  split
  · obtain⟨h1,h2⟩:=setsL_sm hF n (l++[(setR c F l r).1]) (setR c F l r).2 (fun s hs=>by
     rcases List.mem_append.1 hs with hs | hs
     · exact h s hs
     · simp at hs; subst hs; exact hF _)
    exact⟨by simp at h1; omega,h2⟩
  · exact⟨by simp,h⟩
theorem exprsL_sm (hF:∀ r,(F r).1.sm):∀ (n:Nat) (l:List Ex) (r:Rd),(∀ e∈l,e.sm)->(exprsL c F n l r).1.length≤l.length+n∧∀ e∈(exprsL c F n l r).1,e.sm
 | 0,l,r,h=>⟨by simp[exprsL],h⟩
 | n+1,l,r,h=>by
  rw[exprsL]
  split
  · simp only
    have:=exprsL_sm hF n (l++[(F (if l.length=32∧begR c (t2 c [44] r)=true then failR c 12 (t2 c [44] r)else t2 c [44] r)).1]) (F (if l.length=32∧begR c (t2 c [44] r)=true then failR c 12 (t2 c [44] r)else t2 c [44] r)).2 (fun s hs=>by
     rcases List.mem_append.1 hs with hs | hs
     · exact h s hs
     · simp only[List.mem_singleton]at hs; subst hs; exact hF _)
    obtain⟨h1,h2⟩:=this
    exact⟨by simp only[List.length_append,List.length_cons,List.length_nil]at h1; omega,h2⟩
  · exact⟨by simp,h⟩
theorem seenL_sm:∀ (n:Nat) (l:List Int) (r:Rd),(seenL c n l r).1.length≤l.length+n
 | 0,l,r=>by simp[seenL]
 | n+1,l,r=>by
  rw[seenL]
  split
  · simp only
    have:=seenL_sm n (l++[(nmR c (if l.length=32∧(t2 c [44] r).a<c.ts.length∧tokB c { t2 c [44] r with e:=0 } (fun t=>decide (t.k=2))=true then failR c 12 (t2 c [44] r)else t2 c [44] r)).1]) (nmR c (if l.length=32∧(t2 c [44] r).a<c.ts.length∧tokB c { t2 c [44] r with e:=0 } (fun t=>decide (t.k=2))=true then failR c 12 (t2 c [44] r)else t2 c [44] r)).2
    simp only[List.length_append,List.length_cons,List.length_nil]at this
    omega
  · simp
theorem actR_sm (hc:c.ts.length≤2000000) (hF:∀ r,(F r).1.sm) (r:Rd):(actR c F r).1.sm:=by
 unfold actR
 simp only
 have h:=setsL_sm (c:=c) hF (c.ts.length+1) [] (t2 c [123] (flagR c [104,105,100,100,101,110] (optR c F [119,104,101,110] (wordR c (takeR c [97,99,116,105,111,110] r).2).2).2).2) (fun s hs=>by simp at hs)
 exact⟨optR_sm hF _ _,by have:=h.1; simp at this ⊢; omega,h.2⟩
theorem actsL_sm (hc:c.ts.length≤2000000) (hF:∀ r,(F r).1.sm):∀ (n:Nat) (l:List ActP) (r:Rd),(∀ a∈l,a.sm)->(actsL c F 0 n l r).1.length≤l.length+n∧∀ a∈(actsL c F 0 n l r).1,a.sm
 | 0,l,r,h=>⟨by simp[actsL],h⟩
 | n+1,l,r,h=>by
  rw[actsL]
  split
  · simp only
    have:=actsL_sm hc hF n (l++[(actR c F (if l.length=10 then failR c 12 r else r)).1]) (actR c F (if l.length=10 then failR c 12 r else r)).2 (fun s hs=>by
     rcases List.mem_append.1 hs with hs | hs
     · exact h s hs
     · simp only[List.mem_singleton]at hs; subst hs; exact actR_sm hc hF _)
    obtain⟨h1,h2⟩:=this
    exact⟨by simp only[List.length_append,List.length_cons,List.length_nil]at h1; omega,h2⟩
  · exact⟨by simp,h⟩
theorem nilOk:ExsOk []:=⟨by simp,fun e he=>by simp at he⟩
theorem stageR_sm (hc:c.ts.length≤2000000) (hF:∀ r,(F r).1.sm) (r:Rd):(stageR c F r).1.sm:=by
 unfold stageR
 simp only
 generalize labelR c r=l
 split
 · unfold dealR
   simp only
   generalize wordR c (takeR c [100,101,97,108] l.2).2=nm
   generalize nmR c (t2 c [105,110] nm.2)=lo
   generalize nmR c (t2 c [46,46] lo.2)=hi
   have h1:=optR_sm (c:=c) hF [119,101,105,103,104,116] hi.2
   generalize optR c F [119,101,105,103,104,116] hi.2=w at h1 ⊢
   refine⟨h1,?_,nilOk,by simp[zStage],fun a ha=>by simp[zStage]at ha,nilOk⟩
   unfold seenR
   split
   · simp only
     split
     · simp
     · have:=seenL_sm (c:=c) c.ts.length [(nmR c (t2 c [98,121] (t2 c [115,101,101,110] w.2))).1] (nmR c (t2 c [98,121] (t2 c [115,101,101,110] w.2))).2
       simp only[List.length_cons,List.length_nil]at this
       simp only
       omega
   · simp
 · split
   · unfold turnR
     simp only
     have h1:=hF (takeR c [116,117,114,110] l.2).2
     generalize F (takeR c [116,117,114,110] l.2).2=w at h1 ⊢
     have h2:=actR_sm hc hF (t2 c [123] w.2)
     generalize actR c F (t2 c [123] w.2)=a at h2 ⊢
     have h3:=actsL_sm hc hF c.ts.length [a.1] a.2 (fun s hs=>by simp only[List.mem_singleton]at hs; subst hs; exact h2)
     refine⟨nilOk,by simp[zStage],⟨by simp,fun e he=>by simp only[List.mem_singleton]at he; subst he; exact h1⟩,?_,h3.2,nilOk⟩
     have:=h3.1
     simp only[List.length_cons,List.length_nil]at this
     simp only
     omega
   · have h:=exprsL_sm (c:=c) hF c.ts.length [(F (t2 c [112,97,121] (t2 c [123] (takeR c [101,110,100] l.2).2))).1] (F (t2 c [112,97,121] (t2 c [123] (takeR c [101,110,100] l.2).2))).2 (fun e he=>by simp only[List.mem_singleton]at he; subst he; exact hF _)
     refine⟨nilOk,by simp[zStage],nilOk,by simp[zStage],fun a ha=>by simp[zStage]at ha,?_,h.2⟩
     have:=h.1
     simp only[List.length_cons,List.length_nil]at this
     show(exprsL c F c.ts.length _ _).1.length<_
     omega
theorem varsL_sm:∀ (n:Nat) (l:List VarP) (r:Rd),(varsL c n l r).1.length≤l.length+n
 | 0,l,r=>by simp[varsL]
 | n+1,l,r=>by
  rw[varsL]
  split
  · have:=varsL_sm n (l++[(varR c l r).1]) (varR c l r).2
    simp only[List.length_append,List.length_cons,List.length_nil]at this
    omega
  · simp
theorem stagesL_sm (hc:c.ts.length≤2000000) (hF:∀ r,(F r).1.sm):∀ (n:Nat) (l:List StageP) (r:Rd),(∀ a∈l,a.sm)->(stagesL c F n l r).1.length≤l.length+n∧∀ a∈(stagesL c F n l r).1,a.sm
 | 0,l,r,h=>⟨by simp[stagesL],h⟩
 | n+1,l,r,h=>by
  rw[stagesL]
  split
  · obtain⟨h1,h2⟩:=stagesL_sm hc hF n (l++[(stageR c F (fullR c l r)).1]) (stageR c F (fullR c l r)).2 (fun s hs=>by
     rcases List.mem_append.1 hs with hs | hs
     · exact h s hs
     · simp only[List.mem_singleton]at hs; subst hs; exact stageR_sm hc hF _)
    exact⟨by simp only[List.length_append,List.length_cons,List.length_nil]at h1; omega,h2⟩
  · exact⟨by simp,h⟩
theorem zRules_sm:zRules.sm:=⟨by simp[zRules],by simp[zRules],fun x hx=>by simp[zRules]at hx⟩
theorem parseR_sm (l:List UInt8) (hl:l.length≤1000000):(parseR l).1.sm:=by
 have h3:=scan_len l
 unfold parseR
 split
 · exact zRules_sm
 · generalize hc:(⟨(scanG l).1,l.length⟩:Cx)=c
   have hc2:c.ts.length≤2000000:=by rw[←hc]; simp only; omega
   have hF:∀ r,(orT c r).1.sm:=(lv_sm c 40).2.2
   unfold parseT
   simp only
   split
   · exact zRules_sm
   · generalize wordR c (t2 c [103,97,109,101] ⟨0,0,0,0⟩)=w
     generalize nmR c (t2 c [112,108,97,121,101,114,115] (t2 c [59] w.2))=n
     have h1:=varsL_sm (c:=c) c.ts.length [] (t2 c [59] n.2)
     generalize varsL c c.ts.length [] (t2 c [59] n.2)=v at h1 ⊢
     have h2:=stagesL_sm hc2 hF (c.ts.length+1) [] v.2 (fun a ha=>by simp at ha)
     refine⟨?_,?_,h2.2⟩
     · simp only[List.length_nil]at h1; show v.1.length<_; omega
     · have:=h2.1; simp only[List.length_nil]at this; show(stagesL c (orT c) (c.ts.length+1) [] v.2).1.length<_; omega
end
end Go.Proofs.YtmkdpmfhlfhjkaaGreatDoor
namespace Go.Proofs.YtmkdpmfhlfhjkaaGreatDoor
open Go.Ab
def rO (x:RulesP):AO:=⟨x.c,36,0,true⟩
section
variable {c:Cx} {F:Rd->Ex×Rd}
theorem stagesL_end {d:Nat} (hkF:Kp c d F) (hst:Still F):∀ (n:Nat) (l:List StageP) (r:Rd),c.ts.length<r.a+n->Gd c d r->(stagesL c F n l r).2.e=0->c.ts.length≤(stagesL c F n l r).2.a
 | 0,l,r,hn,hg,_=>by have:=hg.a; omega
 | n+1,l,r,hn,hg,he=>by
  rw[stagesL]at he ⊢
  by_cases hc:r.e=0∧(l=[]∨r.a<c.ts.length)
  · rw[if_pos hc]at he ⊢
    by_cases h1:(stageR c F (fullR c l r)).2.e=0
    · have h2:fullR c l r=r:=by
       rw[fullR_eq]at h1 ⊢
       split
       · rename_i h3
         rw[if_pos h3]at h1
         have hb:(failR c 12 r).e≠0:=by simp[failR,hc.1]
         rw[stage_still hst _ hb]at h1
         exact absurd h1 hb
       · rfl
      rw[h2]at h1 he ⊢
      have h3:=stageR_on (c:=c) hkF hg h1
      exact stagesL_end hkF hst n _ _ (by omega) (stageR_keep (c:=c) hkF r hg).1 he
    · rw[stages_bad h1]at he
      exact absurd he h1
  · rw[if_neg hc]at he ⊢
    rcases Nat.lt_or_ge r.a c.ts.length with h | h
    · exact absurd ⟨he,.inr h⟩ hc
    · exact h
theorem rulesT_end {d:Nat} (hkF:Kp c d F) (hst:Still F) {r:Rd} (hg:Gd c d r) (he:(rulesT c F r).2.e=0):¬ (rulesT c F r).2.a<c.ts.length:=by
 unfold rulesT at he ⊢
 dsimp only at he ⊢
 have g1:=(word_keep _ (t2_keep (c:=c) (d:=d) [103,97,109,101] hg).1).1
 have g2:=(t2_keep (c:=c) (d:=d) [112,108,97,121,101,114,115] (t2_keep (c:=c) (d:=d) [59] g1).1).1
 have g3:=(t2_keep (c:=c) (d:=d) [59] (num_keep _ g2).1).1
 have g4:=(varsL_keep (c:=c) (d:=d) c.ts.length [] _ g3).1
 exact Nat.not_lt.2 (stagesL_end hkF hst _ _ _ (by omega) g4 he)
theorem parseT_eq:parseT c F=if(rulesT c F ⟨0,0,0,0⟩).2.e≠0 then(zRules,(rulesT c F ⟨0,0,0,0⟩).2.e,(rulesT c F ⟨0,0,0,0⟩).2.p)else((rulesT c F ⟨0,0,0,0⟩).1,0,0):=rfl
end
section
variable {H:List AO}
theorem okD86n {f g:Nat} (hf:f<H.length) (hg:g<H.length):OkD Tryz.prog 86 [rp f,rp g] H none (fun H'=>H'=H):=by
 refine okD_rc hm Tryz.func86 c86 (by rfl) fun hcl => ?_
 simp -implicitDefEqProofs[i86s,i86,rp,rvD,SV.isIf,SV.ifNil]
 exact cv_id
theorem okD86e {f g:Nat} {c1 c2:List SV} (hf:H[f]? = some ⟨c1,36,0,true⟩) (hc1:c1.length=4) (hg:H[g]? = some ⟨c2,28,0,true⟩) (hc2:c2.length=2) (hne:f≠g) (e p:Int) :
 OkD Tryz.prog 86 [rp f,rp g] H (some (fltI e p)) (fun H'=>H'=(H.set f zR).set g ⟨[i64 e,i64 p],28,0,true⟩):=by
 have hj:=getElem?_lt hf
 have hjg:=getElem?_lt hg
 have e2:∀ (L:List AO) (h:AO->AO),Ab.setObj (H++L) f h=H.set f (h ⟨c1,36,0,true⟩)++L:=fun L h=>by
  rw[setObj_some (o:=⟨c1,36,0,true⟩) (by rw[List.getElem?_append_left hj]; exact hf),List.set_append_left _ _ hj]
 have hg':(H.set f zR)[g]? = some ⟨c2,28,0,true⟩:=by rw[List.getElem?_set_ne hne]; exact hg
 have e4:∀ (L:List AO) (h:AO->AO),Ab.setObj (H.set f zR++L) g h=(H.set f zR).set g (h ⟨c2,28,0,true⟩)++L:=fun L h=>by
  rw[setObj_some (o:=⟨c2,28,0,true⟩) (by rw[List.getElem?_append_left (by simpa using hjg)]; exact hg'),List.set_append_left _ _ (by simpa using hjg)]
 have e1:∀ L,objCells (H++L) f 0=c1:=fun L=>objCells_of (o:=⟨c1,36,0,true⟩) (by rw[List.getElem?_append_left hj]; exact hf) rfl
 have e3:∀ L,objCells (H.set f zR++L) g 0=c2:=fun L=>objCells_of (o:=⟨c2,28,0,true⟩) (by rw[List.getElem?_append_left (by simpa using hjg)]; exact hg') rfl
 have d1:List.drop 4 c1=[]:=List.drop_of_length_le (by omega)
 have d2:List.drop 2 c2=[]:=List.drop_of_length_le (by omega)
 simp only[zR]at e3 e4
 refine okD_rc hm Tryz.func86 c86 (by rfl) fun hcl => ?_
 simp -implicitDefEqProofs[i86s,i86,rp,rvD,SV.isIf,SV.ifNil,fltI]
 refine callq_go (fun _=>ok77 e p) ?_
 simp -implicitDefEqProofs[fltV,e1,e2,e3,e4,hc1,hc2,d1,d2,fltI,rvD]
 have hc1':closed (H.set f zR):=by
  have:=closed_set hcl f (o:=zR) (by simp[zR,SV.underL,SV.under])
  simpa using this
 have hc2':closed ((H.set f zR).set g ⟨[i64 e,i64 p],28,0,true⟩):=by
  have:=closed_set hc1' g (o:=⟨[i64 e,i64 p],28,0,true⟩) (by simp[SV.underL,SV.under])
  simpa using this
 refine⟨rfl,okC_go (by simpa[fltI,fltV]using ok77 e p),?_⟩
 exact cv_fz 2 hc2' (by simp) rfl
theorem cv_zeroR (hcl:closed H) (e p:Int) (L:List AO):Cv H.length (.tup [.agg zR.cells,fltV e p]) (H++L) (.tup [(rulesV zRules),fltV e p]) H:=by
 refine Cv.le (cv_fz (n0:=H.length) (r1:=.tup [.agg [st (B []),i64 0,nl,nl],.agg [i64 e,i64 p]]) (r:=.tup [.agg [st (B []),i64 0,nl,nl],.agg [i64 e,i64 p]]) 3 hcl rfl (by simp)) ?_
 exact zR_le e p
theorem fin38e {q:RulesP×Int×Int} (hcl:closed H) (hq:q.1=zRules) {env:Env} {H1:List AO} {c1 c2:List SV} (hf:H1[H.length]? = some ⟨c1,36,0,true⟩) (hc1:c1.length=4) (hg:H1[H.length+1]? = some ⟨c2,28,0,true⟩) (hc2:c2.length=2)
 (hp:∀ i,i<H.length->H1[i]? = H[i]?) (h4:env.get 4=rp H.length) (h5:env.get 5=rp (H.length+1)) :
 FinD Tryz.prog H.length r38 (fun o h=>o=.ret (.tup [rulesV q.1,fltV q.2.1 q.2.2])∧h=H) 86 [rp H.length,rp (H.length+1)] (.panic (fltI q.2.1 q.2.2)) env H1:=by
 refine⟨_,okD86e hf hc1 hg hc2 (by omega) _ _,?_⟩
 rintro H4 rfl
 have hlen:H.length+2≤H1.length:=by have:=getElem?_lt hg; omega
 obtain⟨L,hL⟩:∃ L,(H1.set H.length zR).set (H.length+1) ⟨[i64 q.2.1,i64 q.2.2],28,0,true⟩=H++zR::⟨[i64 q.2.1,i64 q.2.2],28,0,true⟩::L:=by
  refine⟨H1.drop (H.length+2),?_⟩
  apply List.ext_getElem?
  intro i
  rcases Nat.lt_trichotomy i H.length with h | h | h
  · rw[List.getElem?_set_ne (by omega),List.getElem?_set_ne (by omega),hp i h,List.getElem?_append_left h]
  · subst h
    rw[List.getElem?_set_ne (by omega),List.getElem?_set_self (by omega),List.getElem?_append_right (by omega)]
    simp
  · by_cases h2:i=H.length+1
    · subst h2
      rw[List.getElem?_set_self (by simp; omega),List.getElem?_append_right (by omega)]
      simp
    · rw[List.getElem?_set_ne (by omega),List.getElem?_set_ne (by omega),List.getElem?_append_right (by omega)]
      obtain⟨k,rfl⟩:∃ k,i=H.length+2+k:=⟨i-(H.length+2),by omega⟩
      have e:H.length+2+k-H.length=k+1+1:=by omega
      rw[e,List.getElem?_cons_succ,List.getElem?_cons_succ,List.getElem?_drop]
 rw[hL]
 have e1:objCells (H++zR::⟨[i64 q.2.1,i64 q.2.2],28,0,true⟩::L) H.length 0=zR.cells:=objCells_of (o:=zR) (by simp) rfl
 have e2:objCells (H++zR::⟨[i64 q.2.1,i64 q.2.2],28,0,true⟩::L) (H.length+1) 0=[i64 q.2.1,i64 q.2.2]:=objCells_of (o:=⟨[i64 q.2.1,i64 q.2.2],28,0,true⟩) (by simp) rfl
 refine⟨?_,_,H,⟨rfl,rfl⟩,?_⟩
 · intro s hs
   simp only[r38,List.mem_cons,List.not_mem_nil,or_false]at hs
   rcases hs with rfl | rfl
   · simp[RS.side,h4,rp,e1,zR]
   · simp[RS.side,h5,rp,e2]
 · have hr:resV env (H++zR::⟨[i64 q.2.1,i64 q.2.2],28,0,true⟩::L) r38=.tup [.agg zR.cells,fltV q.2.1 q.2.2]:=by
    simp[resV,r38,RS.ev,h4,h5,rp,e1,e2,zR,fltV]
   rw[hr,hq]
   exact cv_zeroR hcl _ _ _
theorem rc_len (x:RulesP):x.c.length=4:=rfl
theorem rc_drop (x:RulesP):List.drop 4 x.c=[]:=rfl
theorem rc_ok (x:RulesP):cellsOk x.c:=by
 intro s hs
 simp[RulesP.c]at hs
 rcases hs with rfl | rfl | rfl | rfl<;>rfl
theorem rc_take (x:RulesP):List.take 4 x.c=x.c:=rfl
theorem fin38r {x:RulesP} (hcl:closed H) {env:Env} {L:List AO} (h4:env.get 4=rp H.length) (h5:env.get 5=rp (H.length+1)) :
 FinD Tryz.prog H.length r38 (fun o h=>o=.ret (.tup [.agg x.c,.agg [i64 0,i64 0]])∧h=H) 86 [rp H.length,rp (H.length+1)] .ret env (H++rO x::⟨[i64 0,i64 0],28,0,true⟩::L):=by
 refine⟨_,okD86n (by simp) (by simp),?_⟩
 rintro H4 rfl
 have e1:objCells (H++rO x::⟨[i64 0,i64 0],28,0,true⟩::L) H.length 0=x.c:=objCells_of (o:=rO x) (by simp) rfl
 have e2:objCells (H++rO x::⟨[i64 0,i64 0],28,0,true⟩::L) (H.length+1) 0=[i64 0,i64 0]:=objCells_of (o:=⟨[i64 0,i64 0],28,0,true⟩) (by simp) rfl
 refine⟨?_,_,H,⟨rfl,rfl⟩,?_⟩
 · intro s hs
   simp only[r38,List.mem_cons,List.not_mem_nil,or_false]at hs
   rcases hs with rfl | rfl
   · simp[RS.side,h4,rp,e1,rc_len]
   · simp[RS.side,h5,rp,e2]
 · have hr:resV env (H++rO x::⟨[i64 0,i64 0],28,0,true⟩::L) r38=.tup [.agg x.c,.agg [i64 0,i64 0]]:=by
    simp[resV,r38,RS.ev,h4,h5,rp,e1,e2,rc_take]
   rw[hr]
   refine cv_fz 3 hcl rfl (fz_under ?_)
   simp[SV.under,SV.underL,rules_und]
theorem ok38 {l:List UInt8} (hl:l.length≤20000):Ok Tryz.prog 38 [st (B l),.fn (.func 39) [] []] H (.ret (.tup [rulesV (parseR l).1,fltV (parseR l).2.1 (parseR l).2.2])) H:=by
 refine OkP.toOk (okP_ds hm Tryz.func38 c38 (by rfl) fun hcl => ?_)
 have hT:=tokT l
 have hN:=tokN l
 have hlen:=scan_len l
 have h26:=fun H=>ok26 (H:=H) (l:=l) (by omega)
 have hex:parseR l=if(scanG l).2.1≠0 then(zRules,(scanG l).2)else parseT ⟨(scanG l).1,l.length⟩ (orT ⟨(scanG l).1,l.length⟩):=rfl
 rw[hex]
 generalize scanG l=s at hlen h26 hT hN ⊢
 obtain⟨ts,fe,fp⟩:=s
 simp only at hlen h26 hT hN ⊢
 simp -implicitDefEqProofs[XL,i38p,i38a0,i38a1,i38a2]
 refine call_go (h26 _) ?_
 simp -implicitDefEqProofs[fltV,tksV]
 by_cases hs:fe=0
 · subst hs
   simp -implicitDefEqProofs[i38s,i38f,XL,FinE,i38]
   have hlc:ts.length<4611686018427387904:=by omega
   have hg:Gd ⟨ts,l.length⟩ 40 ⟨0,0,0,0⟩:=⟨Nat.zero_le _,.inr rfl⟩
   have hor:PdC ⟨ts,l.length⟩ 32 [] (orT ⟨ts,l.length⟩) 40:=(lv_ok hT hlc 40 (by omega)).2.2
   have hkF:Kp ⟨ts,l.length⟩ 40 (orT ⟨ts,l.length⟩):=(lv_keep ⟨ts,l.length⟩ 40 (by omega)).2.2
   have hst:Still (orT ⟨ts,l.length⟩):=or_still _ _
   have hnb:Nb ⟨ts,l.length⟩ (orT ⟨ts,l.length⟩):=fun r he hb=>or_nb he hb 40
   refine⟨86,_,⟨rfl,rfl⟩,call_go ok78 ?_⟩
   simp -implicitDefEqProofs[lvlC]
   have hG:∀ L,(H++(zR::⟨[i64 0,i64 fp],28,0,true⟩::pdO ⟨ts,l.length⟩ ⟨0,0,0,0⟩::L))[H.length+2]? = some (pdO ⟨ts,l.length⟩ ⟨0,0,0,0⟩):=fun L=>by simp
   have hc:=ok39 (c:=⟨ts,l.length⟩) hT.num hN (show ts.length≤20000 by omega) hor hkF hst hnb (hG []) hg rfl
   have hend:=rulesT_end (c:=⟨ts,l.length⟩) hkF hst hg
   refine⟨⟨rfl,rfl,rfl,rfl,rfl⟩,call_goP (Pt:=PdV ⟨ts,l.length⟩ (H++[zR,⟨[i64 0,i64 fp],28,0,true⟩,pdO ⟨ts,l.length⟩ ⟨0,0,0,0⟩]) (H.length+2) rulesV (rulesT ⟨ts,l.length⟩ (orT ⟨ts,l.length⟩) ⟨0,0,0,0⟩)) (by simpa[rp,zR,pdO,pdC,tksV]using hc) ?_⟩
   intro o H' hp
   unfold PdV at hp
   rw[parseT_eq]
   generalize rulesT ⟨ts,l.length⟩ (orT ⟨ts,l.length⟩) ⟨0,0,0,0⟩=x at hp hend ⊢
   obtain⟨ex,r⟩:=x
   dsimp only at hp hend ⊢
   by_cases he:r.e=0
   · rw[if_pos he]at hp
     obtain⟨rfl,rfl⟩:=hp
     have hset:(H++[zR,⟨[i64 0,i64 fp],28,0,true⟩,pdO ⟨ts,l.length⟩ ⟨0,0,0,0⟩]).set (H.length+2) (pdO ⟨ts,l.length⟩ r)=H++[zR,⟨[i64 0,i64 fp],28,0,true⟩,pdO ⟨ts,l.length⟩ r]:=by
      rw[List.set_append_right _ _ (by omega)]; simp
     rw[hset]
     have hlt:=hend he
     rw[if_neg (by simp[he])]
     have hck:=eq_true (rc_ok ex)
     simp -implicitDefEqProofs[rulesV,rc_len,rc_take,rc_drop,hck,zR,pdO,pdC,tksV,hlt]
     exact fin38r hcl (by simp[rp]) (by simp[rp])
   · rw[if_neg he]at hp
     obtain⟨rfl,hk⟩:=hp
     rw[if_pos he]
     simp -implicitDefEqProofs
     have hk1:∀ i,i<H.length+2->H'[i]? = (H++[zR,⟨[i64 0,i64 fp],28,0,true⟩,pdO ⟨ts,l.length⟩ ⟨0,0,0,0⟩])[i]? := fun i hi=>hk.at_ i (by simp; omega) (by simp; omega)
     exact fin38e (q:=(zRules,r.e,r.p)) hcl rfl (c1:=zR.cells) (c2:=[i64 0,i64 fp]) (by rw[hk1 _ (by omega)]; simp[zR]) rfl (by rw[hk1 _ (by omega)]; simp) rfl (fun i hi=>by rw[hk1 i (by omega),List.getElem?_append_left hi]) (by simp[rp]) (by simp[rp])
 · simp -implicitDefEqProofs[hs,XL,FinE,r38]
   simp only[if_neg hs]
   exact⟨rfl,_,_,⟨rfl,rfl⟩,by simpa[zR,fltV]using cv_zeroR hcl fe fp _⟩
theorem ok14 {l:List UInt8} (hl:l.length≤20000):Ok Tryz.prog 14 [st (B l)] H (.ret (.tup [rulesV (parseR l).1,fltV (parseR l).2.1 (parseR l).2.2])) H:=by
 have h38:=fun H=>ok38 (H:=H) hl
 generalize parseR l=q at h38 ⊢
 refine ok_fn hm Tryz.func14 c14 (by simp) fun hcl => ?_
 simp -implicitDefEqProofs[i14,r14]
 refine call_go (h38 _) ?_
 have hck:=eq_true (rc_ok q.1)
 simp -implicitDefEqProofs[rulesV,fltV,rc_len,rc_take,rc_drop,hck]
 refine cv_fz 3 hcl rfl (fz_under ?_)
 simp[SV.under,SV.underL,rules_und]
end
end Go.Proofs.YtmkdpmfhlfhjkaaGreatDoor
namespace Go.Proofs.YtmkdpmfhlfhjkaaGreatDoor
open Go Go.Ab
section
variable {H:List AO}
theorem law4 (l:List UInt8):Ok Tryz.prog 4 [st (B l)] H (.ret (bl true)) H:=by
 refine ok_fn hm Tryz.func4 c4 (by simp) fun hcl => ?_
 by_cases h2000:2000<l.length
 · have h':(2000:Int)<l.length:=by omega
   simp -implicitDefEqProofs[i4,r4,h2000,h']
   refine call_go ok10 ?_
   simp -implicitDefEqProofs
   exact cv_id
 have h2000':¬ (2000:Int)<l.length:=by omega
 have h14:=fun H=>ok14 (H:=H) (l:=l) (by omega)
 have h15:=fun H=>ok15 (H:=H) (l:=l) (by omega)
 have h16:=fun H=>ok16 (H:=H) (parseR_sm l (by omega))
 have hck:=eq_true (rc_ok (parseR l).1)
 have h1:=rc_len (parseR l).1
 have h2:=rc_take (parseR l).1
 have h3:=rc_drop (parseR l).1
 have hf:∃ x y,fltV (parseR l).2.1 (parseR l).2.2=.agg [i64 x,i64 y]:=⟨_,_,rfl⟩
 obtain⟨x,y,hf⟩:=hf
 rw[hf]at h14 h15
 simp only[rulesV]at h14 h15
 generalize (parseR l).1.c=c at *
 simp -implicitDefEqProofs[i4,r4,h2000,h2000']
 refine call_go (h14 _) ?_
 simp -implicitDefEqProofs[h1,h2,h3,hck]
 refine call_go (h15 _) ?_
 simp -implicitDefEqProofs[h1,h2,h3,hck]
 refine call_go (h16 _) ?_
 simp -implicitDefEqProofs
 refine callq_go (r:=bl true) (fun _=>ok10) ?_
 simp -implicitDefEqProofs
 exact cv_fz 3 hcl rfl (by simp)
end
theorem law4d:∀ dts,Dt.tyL Tryz.prog dts Tryz.f4.params.toList->Ok Tryz.prog 4 (dts.map Dt.sv) [] (.ret (bl true)) []:=by
 have hp:Tryz.f4.params.toList=[9]:=by kernel_rfl
 rw[hp]
 intro dts h
 match dts,h with
 | [d],h =>
  obtain⟨h1,_⟩:=h
  obtain⟨s,rfl,_⟩:=str_of h1
  have:=law4 (H:=[]) s.data.toList
  rw[←B_of s]at this
  exact this
end Go.Proofs.YtmkdpmfhlfhjkaaGreatDoor
