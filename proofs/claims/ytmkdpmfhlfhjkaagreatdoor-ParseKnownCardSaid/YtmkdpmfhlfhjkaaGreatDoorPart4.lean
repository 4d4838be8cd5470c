/-
  Steps of the proof: contracts of functions and plain facts that the statement rests on.
-/
import Derived.Test.YtmkdpmfhlfhjkaaGreatDoorPart3
import Derived.Test.YtmkdpmfhlfhjkaaGreatDoorPWT
import Derived.Lib.AppendIntMem
set_option linter.all false
namespace Go.Proofs.YtmkdpmfhlfhjkaaGreatDoor
open Go.Ab
section
variable {H:List AO} {c:Cx} {r:Rd} {j:Nat} {nm:List UInt8} {wh:List Ex} {hid:Bool} {sets:List SetP} {p:Int}
theorem pcv_act {x y:AO} {o:AO} {go:List UInt8} {G:List AO} (hcl:closed (H.set j o)) :
 Cv H.length (.agg [st (B nm),exN wh,bl hid,.own (H.length+3) 0 sets.length 7 sets.length,st (B go),i64 p]) (H.set j o++(x::y::pactO H.length nm wh hid sets.length go p::setO sets::G)) (actV ⟨nm,wh,hid,sets,go,p⟩) (H.set j o):=by
 refine Cv.le (cv_fz (n0:=H.length) 4 hcl (by simp) rfl) ?_
 have e:(rws SetP.c sets).take (sets.length*7)=rws SetP.c sets:=List.take_of_length_le (by rw[rws_len SetP.len]; exact Nat.le_refl _)
 have h1:SV.fz H.length [] (x::y::pactO H.length nm wh hid sets.length go p::setO sets::G) 3 (exN wh)=exN wh:=fz_under (exN_und _ _)
 simp only[setO]at h1
 simp[ActP.c,actV,setO,rws_len SetP.len,e,h1]
 exact le_agg (leL.cons (SV.le.refl _) (leL.cons (exN_le _) (leL.cons (SV.le.refl _) (leL.cons (SV.le.refl _) (leL.cons (SV.le.refl _) (leL.cons (SV.le.refl _) leL.nil))))))
theorem gotoR_no (hp:peekR c [103,111,116,111] r=false):gotoR c r=([],r):=by unfold gotoR; rw[if_neg (by simp[hp])]
theorem gotoR_yes (hp:peekR c [103,111,116,111] r=true):gotoR c r=gotoT c (nextR r):=by unfold gotoR gotoT; rw[if_pos hp,t2_acc hp]
theorem pact_t8 (hn:NumT c) (h20:c.ts.length≤20000) (hj:j<H.length) (hcl:closed H) (he:r.e=0) (ha:r.a≤c.ts.length) {G:List AO} {env:Env} {res:ActP×Rd}
 (hres:(⟨nm,wh,hid,sets,(gotoR c r).1,p⟩,(gotoR c r).2)=res) (h1:env.get 1=rp H.length) (h2:env.get 2=rp (H.length+1)) (h3:env.get 3=rp (H.length+2)) :
 X Tryz.prog Tryz.f182.ntmps drawB (IC.tl 8 i182) env (H.set j (pdO c r)++(bxO j::aZ::pactO H.length nm wh hid sets.length [] p::setO sets::G)) (FinP H.length r182 (PdV c H j actV res)):=by
 have hct:c.ts.length<4611686018427387904:=by omega
 have h202:=ok202 (H:=H.set j (pdO c r)++(bxO j::aZ::pactO H.length nm wh hid sets.length [] p::setO sets::G)) hn (F:=gotoT c) (f:=.fn (.func 201) [] [rp H.length]) rfl rfl (by simp[rp,SV.under,SV.underL]) (s:=[103,111,116,111]) rfl (s1_j hj (pdO c r) _) hct ha he
  (fun hp=>by
   have hlt:=peek_lt hp
   rw[s1_set hj]
   refine okCP_of (a:=[]) (b:=[rp H.length]) (by
    have:=ok201 (H:=H.set j (pdO c (nextR r))++(bxO j::aZ::pactO H.length nm wh hid sets.length [] p::setO sets::G)) (q:=H.length) hn hct (by simp) (s1_j hj (pdO c (nextR r)) _) he hlt
    simpa using this))
 have hy:=gotoR_yes (c:=c) (r:=r)
 have hno:=gotoR_no (c:=c) (r:=r)
 by_cases hp:peekR c [103,111,116,111] r=true
 · rw[if_pos hp]at h202
   rw[hy hp]at hres
   generalize gotoT c (nextR r)=g at h202 hres
   simp -implicitDefEqProofs[IC.tl,i182,r182,h1,h2,h3,rp,bxO]
   refine pd_call (by simpa[rp,bxO]using h202) (fun he1 => ?_) (fun he1 H' hk => ?_)
   · rw[s1_set hj]
     simp -implicitDefEqProofs[h1,h2,h3,rp,wdN,wds]
     refine li_go hm l182_1.eq_1 ?_
     simp -implicitDefEqProofs[h1,h2,h3,rp,pactO,aZ]
     refine li_go hm l182_1.eq_1 ?_
     simp -implicitDefEqProofs[h1,h2,h3,rp,pactO,aZ]
     refine⟨_,_,PdV.got (x:=⟨nm,wh,hid,sets,g.1,p⟩) he1 hres.symm rfl rfl,?_⟩
     have hc1:closed (H.set j (pdO c g.2)):=closed_pd (c:=c) (a:=g.2.a) (v:=g.2.v) hcl
     have:=pcv_act (nm:=nm) (wh:=wh) (hid:=hid) (sets:=sets) (p:=p) (go:=g.1) (x:=bxO j) (y:=⟨[st (B nm),exN wh,bl hid,.own (H.length+3) 0 sets.length 7 sets.length,st (B g.1),i64 p],89,0,true⟩) (G:=G) hc1
     simpa[pactO,bxO,rp]using this
   · simp -implicitDefEqProofs
     have hb:res.2=g.2:=by rw[←hres]
     rw[←hb]at he1 ⊢
     exact⟨_,_,PdV.pan he1 hk.of_set,cv_id⟩
 · rw[if_neg hp]at h202
   rw[Bool.not_eq_true]at hp
   rw[hno hp]at hres
   simp -implicitDefEqProofs[IC.tl,i182,r182,h1,h2,h3,rp,bxO]
   refine pd_call (by simpa[rp,bxO]using h202) (fun he1 => ?_) (fun he1 H' hk=>absurd he he1)
   rw[s1_set hj]
   have n1:(SV.val (Value.slice none 0 0)).isSl=true:=rfl
   have n2:(SV.val (Value.slice none 0 0)).slen=0:=rfl
   simp -implicitDefEqProofs[h1,h2,h3,rp,wdN,wds,n1,n2]
   refine li_go hm l182_1.eq_1 ?_
   simp -implicitDefEqProofs[h1,h2,h3,rp,pactO,aZ]
   refine⟨_,_,PdV.got (x:=⟨nm,wh,hid,sets,[],p⟩) he hres.symm rfl rfl,?_⟩
   have hc1:closed (H.set j (pdO c r)):=closed_pd (c:=c) (a:=r.a) (v:=r.v) hcl
   have:=pcv_act (nm:=nm) (wh:=wh) (hid:=hid) (sets:=sets) (p:=p) (go:=[]) (x:=bxO j) (y:=⟨[st (B nm),exN wh,bl hid,.own (H.length+3) 0 sets.length 7 sets.length,st (B []),i64 p],89,0,true⟩) (G:=G) hc1
   simpa[pactO,bxO,rp]using this
theorem pact_t6 (hn:NumT c) (h20:c.ts.length≤20000) (hj:j<H.length) (hcl:closed H) {d:Nat} {F:Rd->Ex×Rd} (hF:PdC c 32 [] F d) (hkF:Kp c d F) (hst:Still F) (hg:Gd c d r) (he:r.e=0) {G:List AO} {env:Env} {res:ActP×Rd}
 (hres:(fun s:List SetP×Rd=>((⟨nm,wh,hid,s.1,(gotoR c (t2 c [125] s.2)).1,p⟩,(gotoR c (t2 c [125] s.2)).2):ActP×Rd)) (setsL c F (c.ts.length+1) [] (t2 c [123] r))=res) (h1:env.get 1=rp H.length) (h2:env.get 2=rp (H.length+1)) (h3:env.get 3=rp (H.length+2)) :
 X Tryz.prog Tryz.f182.ntmps drawB (IC.tl 6 i182) env (H.set j (pdO c r)++(bxO j::aZ::pactO H.length nm wh hid 0 [] p::setO []::G)) (FinP H.length r182 (PdV c H j actV res)):=by
 have hct:c.ts.length<4611686018427387904:=by omega
 have tail:∀ (sets:List SetP) (r:Rd) (G:List AO) (env:Env),r.e=0->r.a≤c.ts.length->(⟨nm,wh,hid,sets,(gotoR c r).1,p⟩,(gotoR c r).2)=res->env.get 1=rp H.length->env.get 2=rp (H.length+1)->env.get 3=rp (H.length+2)->_:=fun sets r G env he ha hr h1 h2 h3=>pact_t8 (G:=G) hn h20 hj hcl he ha hr h1 h2 h3
 rw[show IC.tl 6 i182=.seq (IC.nth 6 i182) (IC.tl 7 i182)from rfl,show IC.tl 7 i182=.seq (IC.nth 7 i182) (IC.tl 8 i182)from rfl]
 generalize IC.tl 8 i182=t8 at tail ⊢
 have hw:=want_p (H:=H) (j:=j) (r:=r) (L:=bxO j::aZ::pactO H.length nm wh hid 0 [] p::setO []::(G++[⟨[st (B [123])],9,0,true⟩])) (q:=G.length+4) (n:=1) (T:=9) (ver:=0) (l:=[[123]]) hn hct hj (by simp[wds]) rfl (by simp) (by intro s hs; simp at hs; subst hs; rfl) he hg.a
 have hg1:=(t2_keep (c:=c) (d:=d) [123] hg).1
 simp -implicitDefEqProofs[IC.nth,i182,h1,h2,h3,rp,bxO]
 refine pd_call (by simpa[rp,bxO,pactO]using hw) (fun he1 => ?_) (fun he1 H' hk => ?_)
 · rw[s1_set hj]
   simp only[wantR1]at he1 ⊢
   generalize t2 c [123] r=r1 at hg1 he1 hres ⊢
   simp -implicitDefEqProofs[h1,h2,h3]
   generalize hs:setsL c F (c.ts.length+1) [] r1=s at hres
   refine LI.cong (H':=H.set j (pdO c r1)++(bxO j::aZ::pactO H.length nm wh hid ([]:List SetP).length [] p::setO []::(G++[⟨[st (B [123])],9,0,true⟩]))) (by simp[bxO,rp]) ?_
   refine loop182 hn h20 hj hF hkF hst (res:=s) (fun env G hs0 hp hgs h1 h2 h3 => ?_) (fun hs0 env H' hk => ?_) (c.ts.length+1) [] r1 _ _ (by omega) (by simp) hs hg1 he1 ?_ ?_ ?_
   · simp -implicitDefEqProofs
     exact tail s.1 (nextR s.2) G env hs0 (peek_lt hp) (by rw[←hres]; simp only[t2_acc hp]) h1 h2 h3
   · simp -implicitDefEqProofs
     have hb:res.2=s.2:=by
      rw[←hres]
      simp only[t2_still _ hs0,goto_still _ hs0]
     rw[←hb]at hs0 ⊢
     exact⟨_,_,PdV.pan hs0 hk,cv_id⟩
   all_goals simp[h1,h2,h3,rp]
 · simp -implicitDefEqProofs
   rw[wantR1]at he1
   have hb:res.2=t2 c [123] r:=by
    rw[←hres,sets_bad he1]
    simp only[t2_still _ he1,goto_still _ he1]
   simp only[wantR1]
   rw[←hb]at he1 ⊢
   exact⟨_,_,PdV.pan he1 hk.of_set,cv_id⟩
theorem flagR_eq (s:List UInt8):flagR c s r=(peekR c s r,accR c s r):=by
 unfold flagR accR
 by_cases hp:peekR c s r=true
 · rw[if_pos hp,if_pos hp,t2_acc hp,hp]
 · rw[if_neg hp,if_neg hp]; rw[Bool.not_eq_true]at hp; rw[hp]
theorem pact_t2 (hn:NumT c) (h20:c.ts.length≤20000) (hj:j<H.length) (hcl:closed H) {d:Nat} {F:Rd->Ex×Rd} (hF:PdC c 32 [] F d) (hkF:Kp c d F) (hst:Still F) (hg:Gd c d r) (he:r.e=0) {env:Env} {res:ActP×Rd}
 (hres:actR c F r=res) (h1:env.get 1=rp H.length) (h2:env.get 2=rp (H.length+1)) (h3:env.get 3=rp (H.length+2)) :
 X Tryz.prog Tryz.f182.ntmps drawB (IC.tl 2 i182) env (H.set j (pdO c r)++(bxO j::aZ::pactO H.length [] [] false 0 [] (hereR c r)::setO []::[])) (FinP H.length r182 (PdV c H j actV res)):=by
 have hct:c.ts.length<4611686018427387904:=by omega
 have tail:∀ (nm:List UInt8) (wh:List Ex) (hid:Bool) (r':Rd) (G:List AO) (env:Env),Gd c d r'->r'.e=0->_->env.get 1=rp H.length->env.get 2=rp (H.length+1)->env.get 3=rp (H.length+2)->_:=fun nm wh hid r' G env hg he hr h1 h2 h3=>pact_t6 (G:=G) (nm:=nm) (wh:=wh) (hid:=hid) (p:=hereR c r) (r:=r') (res:=res) hn h20 hj hcl hF hkF hst hg he hr h1 h2 h3
 have bad:∀ rf:Rd,rf.e≠0->res.2=rf->∀ H',Keep H [j] H'->PdV c H j actV res (.pan (fltI rf.e rf.p)) H':=by
  intro rf hf hs H' hk
  rw[←hs]at hf ⊢
  exact PdV.pan hf hk
 unfold actR at hres
 simp only[takeR_fst,t2_eq]at hres
 rw[show IC.tl 2 i182=.seq (IC.nth 2 i182) (IC.tl 3 i182)from rfl,show IC.tl 3 i182=.seq (IC.nth 3 i182) (IC.tl 4 i182)from rfl,show IC.tl 4 i182=.seq (IC.nth 4 i182) (IC.tl 5 i182)from rfl,show IC.tl 5 i182=.seq (IC.nth 5 i182) (IC.tl 6 i182)from rfl]
 generalize IC.tl 6 i182=t6 at tail ⊢
 generalize hereR c r=pp at tail hres ⊢
 have hw:=want_p (H:=H) (j:=j) (r:=r) (L:=bxO j::aZ::pactO H.length [] [] false 0 [] pp::setO []::[⟨[st (B [97,99,116,105,111,110])],9,0,true⟩]) (q:=4) (n:=1) (T:=9) (ver:=0) (l:=[[97,99,116,105,111,110]]) hn hct hj (by simp[wds]) rfl (by simp) (by intro s hs; simp at hs; subst hs; rfl) he hg.a
 have hg1:=(t2_keep (c:=c) (d:=d) [97,99,116,105,111,110] hg).1
 simp -implicitDefEqProofs[IC.nth,i182,h1,h2,h3,rp,bxO]
 refine pd_call (by simpa[rp,bxO,pactO]using hw) (fun he1 => ?_) (fun he1 H' hk => ?_)
 · rw[s1_set hj]
   simp only[wantR1]at he1 ⊢
   generalize t2 c [97,99,116,105,111,110] r=r1 at hg1 he1 hres ⊢
   have h88:=fun L=>ok88p (c:=c) (r:=r1) hj (by have:=hg1.a; omega) he1 L false
   simp only[wordF_off]at h88
   have hg2:=(word_keep (c:=c) (d:=d) r1 hg1).1
   simp -implicitDefEqProofs[h1,h2,h3,rp,pactO,bxO]
   generalize wordR c r1=w at hg2 h88 hres
   refine pd_call (by simpa[rp]using h88 _) (fun he2 => ?_) (fun he2 H' hk => ?_)
   · rw[s1_set hj]
     simp -implicitDefEqProofs[h1,h2,h3,rp]
     have h181:=fun L=>ok181 hn hF (s:=[119,104,101,110]) rfl (s1_j hj (pdO c w.2) L) hct hg2 he2
     have hg3:=(optR_keep hkF [119,104,101,110] _ hg2).1
     generalize optR c F [119,104,101,110] w.2=q3 at hg3 h181 hres
     refine pd_call (by simpa[rp]using h181 _) (fun he3 => ?_) (fun he3 H' hk => ?_)
     · rw[s1_set hj]
       simp -implicitDefEqProofs[h1,h2,h3,rp]
       have h90:=fun L=>ok90p (c:=c) (r:=q3.2) hn hj (by have:=hg3.a; omega) he3 L (s:=[104,105,100,100,101,110]) rfl
       have hg4:=(flagR_keep [104,105,100,100,101,110] _ hg3).1
       have he4:(accR c [104,105,100,100,101,110] q3.2).e=0:=by unfold accR; split<;>exact he3
       refine call_go (by simpa[rp]using h90 _) ?_
       rw[flagR_eq]at hg4 hres
       simp -implicitDefEqProofs[h1,h2,h3,rp]
       refine Xc ?_ (tail w.1 q3.1 (peekR c [104,105,100,100,101,110] q3.2) (accR c [104,105,100,100,101,110] q3.2) [⟨[st (B [97,99,116,105,111,110])],9,0,true⟩] _ hg4 he4 hres ?_ ?_ ?_)
       · simp[bxO,pactO,rp,setO,rws]
       all_goals simp[h1,h2,h3,rp]
     · simp -implicitDefEqProofs
       refine⟨_,_,bad _ he3 ?_ _ hk.of_set,cv_id⟩
       rw[←hres]
       simp only[flag_still _ _ he3,t2_still _ he3,sets_bad he3,goto_still _ he3]
   · simp -implicitDefEqProofs
     refine⟨_,_,bad _ he2 ?_ _ hk.of_set,cv_id⟩
     rw[←hres]
     simp only[opt_still _ _ he2,flag_still _ _ he2,t2_still _ he2,sets_bad he2,goto_still _ he2]
 · simp -implicitDefEqProofs
   rw[wantR1]at he1
   refine⟨_,_,bad _ he1 ?_ _ hk.of_set,cv_id⟩
   rw[←hres]
   simp only[word_still _ he1,opt_still _ _ he1,flag_still _ _ he1,t2_still _ he1,sets_bad he1,goto_still _ he1]
theorem ok182 (hn:NumT c) (h20:c.ts.length≤20000) {d:Nat} {F:Rd->Ex×Rd} (hF:PdC c 32 [] F d) (hkF:Kp c d F) (hst:Still F) (ho:H[j]? = some (pdO c r)) (hg:Gd c d r) (he:r.e=0):OkP Tryz.prog 182 [rp j] H (PdV c H j actV (actR c F r)):=by
 have hj:=getElem?_lt ho
 have h91:=fun L=>ok91 (H:=H++L) (c:=c) (r:=r) (j:=j) (by rw[List.getElem?_append_left hj]; exact ho)
 refine okP_WI hm Tryz.func182 c182 (by simp[rp,SV.under,hj]) fun hcl => ?_
 have tail:∀ env:Env,env.get 1=rp H.length->env.get 2=rp (H.length+1)->env.get 3=rp (H.length+2)->_:=fun env h1 h2 h3=>pact_t2 (r:=r) (res:=actR c F r) hn h20 hj hcl hF hkF hst hg he rfl h1 h2 h3
 rw[show i182=.seq (IC.nth 0 i182) (.seq (IC.nth 1 i182) (IC.tl 2 i182))from rfl]
 generalize IC.tl 2 i182=t2' at tail ⊢
 refine WI.seq (draw_ok hm) ?_
 simp -implicitDefEqProofs[IC.nth,i182,rp]
 refine WI.seq (draw_ok hm) ?_
 simp -implicitDefEqProofs[IC.nth,i182,rp]
 refine call_go (by simpa[rp]using h91 _) ?_
 simp -implicitDefEqProofs
 refine⟨rfl,WI.tell (Tell.own0 (j:=H.length+2) (p:=3) (o:=⟨[st (B []),nl,bl false,nl,st (B []),i64 (hereR c r)],89,0,true⟩) (by simp) rfl rfl 91 7) ?_⟩
 refine WI.cong (H':=H.set j (pdO c r)++(bxO j::aZ::pactO H.length [] [] false 0 [] (hereR c r)::setO []::[])) ?_ ?_
 · rw[set_same ho]
   simp[aZ,pactO,setO,rws,bxO,rp,exN]
 · exact WI.of_X (draw_ok hm) (tail _ (by simp[rp]) (by simp[rp]) (by simp[rp]))
end
end Go.Proofs.YtmkdpmfhlfhjkaaGreatDoor
namespace Go.Proofs.YtmkdpmfhlfhjkaaGreatDoor
open Go.Ab
section
variable {H:List AO} {c:Cx} {r:Rd} {j k:Nat} {lb:List UInt8} {p:Int} {F:Rd->Ex×Rd}
theorem is_at (hJ:J2 H j k) {p:AO} {L:List AO} {q n T ver:Nat} {l:List (List UInt8)} (hL:L[q]? = some ⟨wds l,T,ver,true⟩) (hn':n=l.length) (hl:l.length<4611686018427387904) :
 Ok Tryz.prog 93 [rp j,.own (H.length+q) 0 n 1 ver] (w2 H j k (pdO c r) p++L) (.ret (bl (decide ((tkR c r).tx∈l)))) (w2 H j k (pdO c r) p++L):=by
 have:=IsS.own1 (H:=w2 H j k (pdO c r) p) hL hn'
 exact ok93 (w2_j hJ L) (by simpa using this) hl
theorem is_one (hn:NumT c) (hJ:J2 H j k) {p:AO} {L:List AO} {q:Nat} {s:List UInt8} (hs:wrdB s=true) (he:r.e=0) (hL:L[q]? = some ⟨[st (B s)],9,0,true⟩) :
 Ok Tryz.prog 93 [rp j,.own (H.length+q) 0 1 1 0] (w2 H j k (pdO c r) p++L) (.ret (bl (peekR c s r))) (w2 H j k (pdO c r) p++L):=by
 have:=is_at (c:=c) (r:=r) hJ (p:=p) (L:=L) (q:=q) (n:=1) (T:=9) (ver:=0) (l:=[s]) hL rfl (by simp)
 rwa [mem_peek hn hs he]at this
def turnT (c:Cx) (F:Rd->Ex×Rd) (lb:List UInt8) (p:Int) (r:Rd):StageP×Rd :=
 let w:=F r
 let a:=actR c F (t2 c [123] w.2)
 let l:=actsL c F 0 c.ts.length [a.1] a.2
 (⟨2,lb,[],0,0,[],false,[],[w.1],l.1,[],p⟩,t2 c [125] l.2)
theorem turnT_eq (r:Rd):turnR c F { zStage with lb:=lb } r=turnT c F lb (hereR c r) (t2 c [116,117,114,110] r):=by
 unfold turnR turnT
 simp only[zStage,takeR_fst,t2_eq]
def tnC (lb:List UInt8) (n m:Nat) (p:Int):List SV:=[i64 2,st (B lb),st (B []),i64 0,i64 0,nl,bl false,nl,.own n 0 1 5 0,.own (n+2) 0 m 6 m,nl,i64 p]
def tnL (w:Ex) (l:List ActP) (G:List AO):List AO:=⟨w.c,25,0,true⟩::⟨[st (B [123])],9,0,true⟩::⟨rws ActP.c l,89,l.length,true⟩::G
def k148:IC:=match l148_0 with | .keep _ a=>a | a=>a
set_option maxHeartbeats 2000000 in
theorem round148 (hn:NumT c) (h20:c.ts.length≤20000) (hJ:J2 H j k) {d:Nat} (hF:PdC c 32 [] F d) (hkF:Kp c d F) (hst:Still F) {w:Ex} {N:Nat} {K:XE->Env->List AO->Prop} (hg:Gd c d r) (he:r.e=0) {l:List ActP} (hlr:l.length≤r.a) {G:List AO} {env:Env}
 (h0:env.get 0=rp j) (h1:env.get 1=rp k)
 (hexit:l≠[]->peekR c [97,99,116,105,111,110] r=false->∀ env G,env.get 0=rp j->env.get 1=rp k->K (.exit 0) env (w2 H j k (pdO c r) ⟨tnC lb H.length l.length p,78,0,true⟩++tnL w l G))
 (hnext:peekR c [97,99,116,105,111,110] r=true->l.length≠10->(actR c F r).2.e=0->∀ env G,env.get 0=rp j->env.get 1=rp k->LI Tryz.prog N drawB l148_0 env (w2 H j k (pdO c (actR c F r).2) ⟨tnC lb H.length (l.length+1) p,78,0,true⟩++tnL w (l++[(actR c F r).1]) G) K)
 (hbad:∀ rf:Rd,rf.e≠0->(l=[]∧peekR c [97,99,116,105,111,110] r=false∧rf=failR c 11 r)∨(peekR c [97,99,116,105,111,110] r=true∧l.length=10∧rf=failR c 12 r)∨(peekR c [97,99,116,105,111,110] r=true∧l.length≠10∧rf=(actR c F r).2)->∀ env H',Keep H [j,k] H'->K (.panic (fltI rf.e rf.p)) env H') :
 LI Tryz.prog N drawB l148_0 env (w2 H j k (pdO c r) ⟨tnC lb H.length l.length p,78,0,true⟩++tnL w l G) K:=by
 have hct:c.ts.length<4611686018427387904:=by omega
 have ha:=hg.a
 have e2:=fun o cs L f=>w2_sok (o:=o) (p:=⟨cs,78,0,true⟩) hJ L f
 have e3:=fun o cs L=>w2_ock (o:=o) hJ cs 78 L
 have h79:=fun p L e=>ok79 (w2_j (o:=pdO c r) (p:=p) hJ L) e
 have h182:=fun p L=>ok182 hn h20 hF hkF hst (w2_j (o:=pdO c r) (p:=p) hJ L) hg he
 have is1:∀ (p:AO) (L:List AO) (q:Nat),L[q]? = some ⟨[st (B [97,99,116,105,111,110])],9,0,true⟩->Ok Tryz.prog 93 [rp j,.own (H.length+q) 0 1 1 0] (w2 H j k (pdO c r) p++L) (.ret (bl (peekR c [97,99,116,105,111,110] r))) (w2 H j k (pdO c r) p++L):=fun p L q hL=>is_one hn hJ (s:=[97,99,116,105,111,110]) rfl he hL
 have f11:(failR c 11 r).e=11∧(failR c 11 r).p=hereR c r:=by simp[failR,he]
 have f12:(failR c 12 r).e=12∧(failR c 12 r).p=hereR c r:=by simp[failR,he]
 have hb11:=hbad (failR c 11 r) (by rw[f11.1]; decide)
 have hb12:=hbad (failR c 12 r) (by rw[f12.1]; decide)
 rw[f11.1,f11.2]at hb11
 rw[f12.1,f12.2]at hb12
 have hcode:l148_0=.keep [0,1] (.seq (IC.nth 0 k148) (IC.nth 1 k148)):=rfl
 refine li_go hm hcode ?_
 generalize hK:(fun(x:XE) (env:Env) (H:List AO)=>match x with | .normal=>LI Tryz.prog N drawB l148_0 env H K | x=>K x env H)=K'
 have hKn:∀ env H,K' .normal env H=LI Tryz.prog N drawB l148_0 env H K:=fun env H=>by rw[←hK]
 have hKp:∀ x env H,K' (.panic x) env H=K (.panic x) env H:=fun x env H=>by rw[←hK]
 have hKe:∀ n env H,K' (.exit n) env H=K (.exit n) env H:=fun n env H=>by rw[←hK]
 clear hK
 have body:∀ (env:Env) (G:List AO),env.get 0=rp j->env.get 1=rp k->(l=[]∨peekR c [97,99,116,105,111,110] r=true) →
  X Tryz.prog N drawB (IC.nth 1 k148) env (w2 H j k (pdO c r) ⟨tnC lb H.length l.length p,78,0,true⟩++tnL w l G) K':=by
  intro env G h0 h1 hc
  simp -implicitDefEqProofs[IC.nth,k148,l148_0,h0,h1,rp,e2,e3,tnC,tnL]
  refine call_go (by simpa[rp,tnC,tnL]using is1 ⟨tnC lb H.length l.length p,78,0,true⟩ (tnL w l (G++[⟨[st (B [97,99,116,105,111,110])],9,0,true⟩])) (G.length+3) (by simp[tnL])) ?_
  by_cases hp:peekR c [97,99,116,105,111,110] r=true
  · simp -implicitDefEqProofs[h0,h1,rp,e2,e3,hp]
    by_cases h10:l.length=10
    · have h10':(l.length:Int)=10:=by omega
      simp -implicitDefEqProofs[h0,h1,rp,e2,e3,h10']
      refine call_go (by simpa[rp,tnC,tnL]using h79 _ _ 12) ?_
      simp -implicitDefEqProofs
      rw[hKp]
      exact hb12 (.inr (.inl ⟨hp,h10,rfl⟩)) _ _ (Keep.w2 hJ (Keep.refl _ _))
    · have h10':¬ (l.length:Int)=10:=by omega
      have hb3:=fun h=>hbad (actR c F r).2 h (.inr (.inr ⟨hp,h10,rfl⟩))
      have hn3:=hnext hp h10
      simp -implicitDefEqProofs[h0,h1,rp,e2,e3,h10']
      generalize actR c F r=a at h182 hb3 hn3
      refine pd_call (by simpa[rp]using h182 _ _) (fun he1 => ?_) (fun he1 H' hk => ?_)
      · rw[w2_setj hJ]
        simp -implicitDefEqProofs[h0,h1,rp,e2,e3,actV,rws_len ActP.c_len]
        refine⟨by omega,by omega,?_⟩
        rw[hKn]
        refine LI.cong ?_ (hn3 he1 _ (G++[⟨[st (B [97,99,116,105,111,110])],9,0,true⟩,⟨a.1.c,89,0,true⟩]) ?_ ?_)
        · simp[tnC,tnL,rws_app,rws]
        all_goals simp[h0,h1,rp]
      · simp -implicitDefEqProofs
        rw[hKp]
        exact hb3 he1 _ _ (hk.w2 hJ)
  · have hl0:=hc.resolve_right hp
    rw[Bool.not_eq_true]at hp
    simp -implicitDefEqProofs[h0,h1,rp,e2,e3,hp]
    refine call_go (by simpa[rp,tnC,tnL]using h79 _ _ 11) ?_
    simp -implicitDefEqProofs
    rw[hKp]
    exact hb11 (.inl ⟨hl0,hp,rfl⟩) _ _ (Keep.w2 hJ (Keep.refl _ _))
 generalize IC.nth 1 k148=B1 at body ⊢
 by_cases hl0:l=[]
 · subst hl0
   simp -implicitDefEqProofs[IC.nth,k148,l148_0,h0,h1,rp,e2,e3,tnC,tnL]
   refine callq_off _ _ _ _ ?_
   simp -implicitDefEqProofs[h0,h1,rp]
   exact body _ G (by simp[rp]) (by simp[rp]) (.inl rfl)
 · simp -implicitDefEqProofs[IC.nth,k148,l148_0,h0,h1,rp,e2,e3,tnC,tnL,hl0]
   refine callq_st (r:=bl (peekR c [97,99,116,105,111,110] r)) (fun _=>by simpa[rp,tnC,tnL,SV.strip]using is1 ⟨tnC lb H.length l.length p,78,0,true⟩ (tnL w l (G++[⟨[st (B [97,99,116,105,111,110])],9,0,true⟩])) (G.length+3) (by simp[tnL])) ?_
   by_cases hp:peekR c [97,99,116,105,111,110] r=true
   · simp -implicitDefEqProofs[h0,h1,rp,hp,hl0]
     refine Xc ?_ (body _ (G++[⟨[st (B [97,99,116,105,111,110])],9,0,true⟩]) (by simp[rp]) (by simp[rp]) (.inr hp))
     simp[tnC,tnL]
   · rw[Bool.not_eq_true]at hp
     simp -implicitDefEqProofs[h0,h1,rp,hp,hl0]
     rw[hKe]
     refine hexit hl0 hp _ (G++[⟨[st (B [97,99,116,105,111,110])],9,0,true⟩]) ?_ ?_<;>simp[rp]
theorem acts_bad {n:Nat} {l:List ActP} (h:r.e≠0):actsL c F 0 n l r=(l,r):=by
 cases n with
 | zero=>rfl
 | succ n=>rw[actsL,if_neg (by rw[peek_bad h]; decide)]
theorem loop148 (hn:NumT c) (h20:c.ts.length≤20000) (hJ:J2 H j k) {d:Nat} (hF:PdC c 32 [] F d) (hkF:Kp c d F) (hst:Still F) {w:Ex} {N:Nat} {K:XE->Env->List AO->Prop} {res:List ActP×Rd}
 (hexit:res.2.e=0->Gd c d res.2->∀ env G,env.get 0=rp j->env.get 1=rp k->K (.exit 0) env (w2 H j k (pdO c res.2) ⟨tnC lb H.length res.1.length p,78,0,true⟩++tnL w res.1 G))
 (hpan:res.2.e≠0->∀ env H',Keep H [j,k] H'->K (.panic (fltI res.2.e res.2.p)) env H') :
 ∀ (n:Nat) (l:List ActP) (r:Rd) (G:List AO) (env:Env),c.ts.length≤r.a+n->l≠[]->l.length≤r.a->actsL c F 0 n l r=res->Gd c d r->r.e=0->env.get 0=rp j->env.get 1=rp k →
  LI Tryz.prog N drawB l148_0 env (w2 H j k (pdO c r) ⟨tnC lb H.length l.length p,78,0,true⟩++tnL w l G) K:=by
 intro n
 induction n with
 | zero =>
  intro l r G env hna hl hlr hr hg he h0 h1
  have hp:peekR c [97,99,116,105,111,110] r=false:=by rw[←Bool.not_eq_true]; intro h; have:=peek_lt h; omega
  rw[actsL]at hr
  subst hr
  refine round148 hn h20 hJ hF hkF hst hg he hlr h0 h1 (fun _ _=>hexit he hg) (fun h=>by rw[hp]at h; cases h) (fun rf _ h => ?_)
  rcases h with h | h | h
  · exact absurd h.1 hl
  · rw[hp]at h; cases h.1
  · rw[hp]at h; cases h.1
 | succ n ih =>
  intro l r G env hna hl hlr hr hg he h0 h1
  rw[actsL]at hr
  by_cases hp:peekR c [97,99,116,105,111,110] r=true
  · rw[if_pos hp]at hr
    simp only at hr
    have hlt:=peek_lt hp
    have ht:(takeR c [97,99,116,105,111,110] r).2=nextR r:=by simp[takeR,hp]
    have hstr:r.a+1≤(actR c F r).2.a:=by
     have:=act_from hkF (r:=r) (by rw[ht]; exact hg.next hlt)
     rw[ht]at this
     exact this
    obtain⟨k1,k2⟩:=actR_keep hkF r hg
    refine round148 hn h20 hJ hF hkF hst hg he hlr h0 h1 (fun _ h=>by rw[hp]at h; cases h) (fun _ h10 he1 env G h0 h1 => ?_) (fun rf hf h => ?_)
    · rw[if_neg h10]at hr
      refine LI.cong ?_ (ih (l++[(actR c F r).1]) (actR c F r).2 G env (by omega) (by simp) (by simp; omega) hr k1 he1 h0 h1)
      simp
    · rcases h with h | h | h
      · exact absurd h.1 hl
      · rw[if_pos h.2.1,<- h.2.2]at hr
        have hb:(actR c F rf).2=rf:=act_still rf hf
        rw[acts_bad (by rw[hb]; exact hf),hb]at hr
        have:res.2=rf:=by rw[←hr]
        rw[←this]at hf ⊢
        exact hpan hf
      · rw[if_neg h.2.1,<- h.2.2,acts_bad hf]at hr
        have:res.2=rf:=by rw[←hr]
        rw[←this]at hf ⊢
        exact hpan hf
  · rw[if_neg hp]at hr
    rw[Bool.not_eq_true]at hp
    subst hr
    refine round148 hn h20 hJ hF hkF hst hg he hlr h0 h1 (fun _ _=>hexit he hg) (fun h=>by rw[hp]at h; cases h) (fun rf _ h => ?_)
    rcases h with h | h | h
    · exact absurd h.1 hl
    · rw[hp]at h; cases h.1
    · rw[hp]at h; cases h.1
theorem act_no (he:r.e=0) (hp:peekR c [97,99,116,105,111,110] r=false):(actR c F r).2=failR c 11 r:=by
 have hb:(failR c 11 r).e≠0:=by simp[failR,he]
 have ht:t2 c [97,99,116,105,111,110] r=failR c 11 r:=by simp[t2,takeR,hp]
 unfold actR
 simp only[t2_eq,ht,word_still _ hb,opt_still _ _ hb,flag_still _ _ hb,t2_still _ hb,sets_bad hb,goto_still _ hb]
end
end Go.Proofs.YtmkdpmfhlfhjkaaGreatDoor
namespace Go.Proofs.YtmkdpmfhlfhjkaaGreatDoor
open Go.Ab
section
variable {H:List AO} {c:Cx} {r:Rd} {j k:Nat} {lb:List UInt8} {p:Int} {F:Rd->Ex×Rd}
theorem acts_len:∀ (n:Nat) (l:List ActP) (r:Rd),l.length≤(actsL c F 0 n l r).1.length
 | 0,l,r=>Nat.le_refl _
 | n+1,l,r=>by
  rw[actsL]
  split
  · have:=acts_len n (l++[(actR c F (if l.length=10 then failR c 12 r else r)).1]) (actR c F (if l.length=10 then failR c 12 r else r)).2
    simp only[List.length_append,List.length_cons,List.length_nil]at this
    simp only
    omega
  · exact Nat.le_refl _
theorem pturn_t4 (hn:NumT c) (h20:c.ts.length≤20000) (hcl:closed H) (hJ:J2 H j k) (he:r.e=0) (ha:r.a≤c.ts.length) {w:Ex} {l:List ActP} (hl0:l≠[]) {G:List AO} {env:Env} (h0:env.get 0=rp j) {res:StageP×Rd}
 (hres:(⟨2,lb,[],0,0,[],false,[],[w],l,[],p⟩,t2 c [125] r)=res) :
 X Tryz.prog Tryz.f148.ntmps drawB (IC.tl 4 i148) env (w2 H j k (pdO c r) ⟨tnC lb H.length l.length p,78,0,true⟩++tnL w l G) (FinP H.length r148 (PdS c H j k res)):=by
 have hct:c.ts.length<4611686018427387904:=by omega
 subst hres
 have hw:=want_at (p:=⟨tnC lb H.length l.length p,78,0,true⟩) (L:=tnL w l (G++[⟨[st (B [125])],9,0,true⟩])) (q:=G.length+3) (n:=1) (T:=9) (ver:=0) (l:=[[125]]) hn hct hJ (by simp[wds,tnL]) rfl (by simp) (by intro s hs; simp at hs; subst hs; rfl) he ha
 simp -implicitDefEqProofs[IC.tl,i148,r148,h0,rp,tnL]
 refine pd_call (by simpa[rp,tnL]using hw) (fun he2 => ?_) (fun he2 H' hk => ?_)
 · rw[w2_setj hJ]
   simp -implicitDefEqProofs
   rw[wantR1]at he2 ⊢
   refine⟨_,_,PdS.ret (q:=(⟨2,lb,[],0,0,[],false,[],[w],l,[],p⟩,t2 c [125] r)) he2 rfl,?_⟩
   refine st_cv (L:=tnL w l (G++[⟨[st (B [125])],9,0,true⟩])) rfl hcl hJ ?_
   have e1:=(Rw.own (n:=H.length) (q:=0) (m:=1) (sz:=5) (ver:=0) (T:=25) (L:=tnL w l (G++[⟨[st (B [125])],9,0,true⟩])) (cells:=w.c) rfl (by simp) (Ex.und _ w)).fz [] 1
   have e2:=(Rw.own (n:=H.length) (q:=2) (m:=l.length) (sz:=6) (ver:=l.length) (T:=89) (L:=tnL w l (G++[⟨[st (B [125])],9,0,true⟩])) (cells:=rws ActP.c l) rfl (rws_len ActP.c_len l) (rws_under (ActP.und _) l)).fz [] 1
   simp only[List.append_nil,Nat.add_zero]at e1 e2
   simp only[tnC,List.map_cons,List.map_nil,StageP.cN,e1,e2]
   simp[exN,acN,inN,hl0,exS,Ex.cL]
 · simp -implicitDefEqProofs
   exact⟨_,_,PdS.pan (q:=(⟨2,lb,[],0,0,[],false,[],[w],l,[],p⟩,t2 c [125] r)) he2 (hk.w2 hJ),cv_id⟩
theorem ok148 (hn:NumT c) (h20:c.ts.length≤20000) (hJ:J2 H j k) {d:Nat} (hF:PdC c 32 [] F d) (hkF:Kp c d F) (hst:Still F) (ho:H[j]? = some (pdO c r)) (hk0:H[k]? = some ⟨sC lb p,78,0,true⟩) (hg:Gd c d r) (he:r.e=0) :
 OkP Tryz.prog 148 [rp j,rp k] H (PdS c H j k (turnT c F lb p r)):=by
 have hct:c.ts.length<4611686018427387904:=by omega
 have ha:=hg.a
 have e2n:=fun o cs f=>w2_sok0 (o:=o) (p:=⟨cs,78,0,true⟩) hJ f
 have e3n:=fun o cs=>w2_ock0 (o:=o) hJ cs 78
 have e2:=fun o cs L f=>w2_sok (o:=o) (p:=⟨cs,78,0,true⟩) hJ L f
 have e3:=fun o cs L=>w2_ock (o:=o) hJ cs 78 L
 refine okP_fn hm Tryz.func148 c148 (by simp[rp,SV.under,hJ.lj,hJ.lk]) fun hcl => ?_
 refine Xc (H':=w2 H j k (pdO c r) ⟨sC lb p,78,0,true⟩) (w2_same ho hk0) ?_
 have tail:∀ (w:Ex) (l:List ActP) (r:Rd) (G:List AO) (env:Env) (res:StageP×Rd),r.e=0->r.a≤c.ts.length->l≠[]->env.get 0=rp j->_->_:=fun w l r G env res he ha hl0 h0 hr=>pturn_t4 (lb:=lb) (p:=p) (G:=G) (env:=env) (res:=res) (w:=w) (l:=l) hn h20 hcl hJ he ha hl0 h0 hr
 rw[show i148=.seq (IC.nth 0 i148) (.seq (IC.nth 1 i148) (.seq (IC.nth 2 i148) (.seq (IC.nth 3 i148) (IC.tl 4 i148))))from rfl]
 generalize IC.tl 4 i148=t4 at tail ⊢
 generalize hres:turnT c F lb p r=res
 unfold turnT at hres
 have bad:∀ rf:Rd,rf.e≠0->res.2=rf->∀ H',Keep H [j,k] H'->PdS c H j k res (.pan (fltI rf.e rf.p)) H':=by
  intro rf hf hs H' hk
  rw[←hs]at hf ⊢
  exact PdS.pan hf hk
 have hc:=fun p=>hF (w2_j0 (o:=pdO c r) (p:=p) hJ) hg he
 have hg1:=(hkF _ hg).1
 simp -implicitDefEqProofs[IC.nth,i148,r148,rp,e2n,e3n,sC]
 refine call_goP (by simpa[rp]using hc _) ?_
 intro o H' hq
 unfold PdP PdV at hq
 generalize F r=q at hq hg1 hres
 by_cases he1:q.2.e=0
 · rw[if_pos he1]at hq
   obtain⟨rfl,rfl⟩:=hq
   rw[w2_setj0 hJ]
   have hw:=want_at (p:=⟨[i64 2,st (B lb),st (B []),i64 0,i64 0,nl,bl false,nl,.own H.length 0 1 5 0,nl,nl,i64 p],78,0,true⟩) (L:=[⟨q.1.c,25,0,true⟩,⟨[st (B [123])],9,0,true⟩]) (q:=1) (n:=1) (T:=9) (ver:=0) (l:=[[123]]) hn hct hJ (by simp[wds]) rfl (by simp) (by intro s hs; simp at hs; subst hs; rfl) he1 hg1.a
   have hg2:=(t2_keep (c:=c) (d:=d) [123] hg1).1
   simp -implicitDefEqProofs[rp,e2,e3,Ex.v]
   refine pd_call (by simpa[rp]using hw) (fun he2 => ?_) (fun he2 H' hk => ?_)
   · rw[w2_setj hJ]
     simp only[wantR1]at he2 ⊢
     try simp only at hres
     have hno:=act_no (c:=c) (r:=t2 c [123] q.2) (F:=F) he2
     generalize t2 c [123] q.2=r2 at hg2 he2 hres hno ⊢
     have hka:=actR_keep hkF r2 hg2
     simp -implicitDefEqProofs[rp]
     refine LI.tell (Tell.own0 (j:=k) (p:=9) (o:=⟨[i64 2,st (B lb),st (B []),i64 0,i64 0,nl,bl false,nl,.own H.length 0 1 5 0,nl,nl,i64 p],78,0,true⟩) (w2_k hJ _) rfl rfl 89 6) ?_
     rw[w2_setk hJ]
     refine LI.cong (H':=w2 H j k (pdO c r2) ⟨tnC lb H.length ([]:List ActP).length p,78,0,true⟩++tnL q.1 [] []) (by simp[tnC,tnL,rws]) ?_
     refine round148 hn h20 hJ hF hkF hst hg2 he2 (by simp) (by simp[rp]) (by simp[rp]) (fun h=>absurd rfl h) (fun hp _ he3 env G h0 h1 => ?_) (fun rf hf h env H' hk => ?_)
     · have hpos:1≤(actR c F r2).2.a:=by
        have ht:(takeR c [97,99,116,105,111,110] r2).2=nextR r2:=by simp[takeR,hp]
        have:=act_from hkF (r:=r2) (by rw[ht]; exact hg2.next (peek_lt hp))
        rw[ht]at this
        simp only[nextR]at this
        omega
       generalize actR c F r2=a at he3 hres hka hpos ⊢
       try simp only at hres
       generalize hs:actsL c F 0 c.ts.length [a.1] a.2=s at hres
       refine LI.cong (H':=w2 H j k (pdO c a.2) ⟨tnC lb H.length [a.1].length p,78,0,true⟩++tnL q.1 [a.1] G) (by simp) ?_
       have hsl:s.1≠[]:=by
        have:=acts_len (c:=c) (F:=F) c.ts.length [a.1] a.2
        rw[hs]at this
        intro h
        rw[h]at this
        simp at this
       refine loop148 hn h20 hJ hF hkF hst (res:=s) (fun hs0 hgs env G h0 h1 => ?_) (fun hs0 env H' hk => ?_) c.ts.length [a.1] a.2 G env (by omega) (by simp) (by simpa using hpos) hs hka.1 he3 h0 h1
       · simp -implicitDefEqProofs
         exact tail q.1 s.1 s.2 G env res hs0 hgs.a hsl h0 hres
       · simp -implicitDefEqProofs
         exact⟨_,_,bad s.2 hs0 (by rw[←hres]; simp only[t2_still _ hs0]) _ hk,cv_id⟩
     · simp -implicitDefEqProofs
       have hrf:(actR c F r2).2=rf:=by
        rcases h with h | h | h
        · rw[hno h.2.1,h.2.2]
        · have:=h.2.1; simp at this
        · exact h.2.2.symm
       refine⟨_,_,bad rf hf ?_ _ hk,cv_id⟩
       rw[←hres]
       simp only[hrf,acts_bad hf,t2_still _ hf]
   · simp -implicitDefEqProofs
     rw[wantR1]at he2
     refine⟨_,_,bad _ he2 ?_ _ (hk.w2 hJ),cv_id⟩
     rw[←hres]
     simp only[act_still _ he2,acts_bad he2,t2_still _ he2]
 · rw[if_neg he1]at hq
   obtain⟨rfl,hk⟩:=hq
   simp -implicitDefEqProofs
   have hk':Keep H [j,k] H':=(show Keep (w2 H j k (pdO c r) _++[]) [j] H' by simpa using hk).w2 hJ
   refine⟨_,_,bad _ he1 ?_ _ hk',cv_id⟩
   rw[←hres]
   simp only[t2_still _ he1,act_still _ he1,acts_bad he1]
end
end Go.Proofs.YtmkdpmfhlfhjkaaGreatDoor
namespace Go.Proofs.YtmkdpmfhlfhjkaaGreatDoor
open Go.Ab
section
variable {H:List AO} {c:Cx} {r:Rd} {j k:Nat} {lb:List UInt8} {p:Int} {F:Rd->Ex×Rd}
def endT (c:Cx) (F:Rd->Ex×Rd) (lb:List UInt8) (p:Int) (r:Rd):StageP×Rd :=
 let e:=exprsR c F (t2 c [112,97,121] (t2 c [123] r))
 (⟨3,lb,[],0,0,[],false,[],[],[],e.1,p⟩,t2 c [125] (t2 c [59] e.2))
def enC (lb:List UInt8) (n m:Nat) (p:Int):List SV:=[i64 3,st (B lb),st (B []),i64 0,i64 0,nl,bl false,nl,nl,nl,.own (n+1) 0 (m+1) 5 m,i64 p]
def enL (l:List Ex) (m:Nat) (G:List AO):List AO:=⟨[st (B [123]),st (B [112,97,121])],9,0,true⟩::⟨Ex.cL l,25,m,true⟩::G
def Nb (c:Cx) (F:Rd->Ex×Rd):Prop:=∀ r:Rd,r.e=0->begR c r=false->(F r).2=failR c 11 r
theorem exprsL_bad {n:Nat} {l:List Ex} (h:r.e≠0):exprsL c F n l r=(l,r):=by
 cases n with
 | zero=>rfl
 | succ n=>rw[exprsL,if_neg (by rw[peek_bad h]; decide)]
set_option maxHeartbeats 2000000 in
theorem loop149 (hn:NumT c) (h20:c.ts.length≤20000) (hJ:J2 H j k) {d:Nat} (hF:PdC c 32 [] F d) (hkF:Kp c d F) (hst:Still F) (hnb:Nb c F) {N:Nat} {K:XE->Env->List AO->Prop} {res:List Ex×Rd}
 (hexit:res.2.e=0->Gd c d res.2->∀ env G m,res.1.length=m+1->env.get 0=rp j->env.get 1=rp k->K (.exit 0) env (w2 H j k (pdO c res.2) ⟨enC lb H.length m p,78,0,true⟩++enL res.1 m G))
 (hpan:res.2.e≠0->∀ env H',Keep H [j,k] H'->K (.panic (fltI res.2.e res.2.p)) env H') :
 ∀ (n:Nat) (l:List Ex) (m:Nat) (r:Rd) (G:List AO) (env:Env),c.ts.length≤r.a+n->l.length=m+1->l.length≤r.a->exprsL c F n l r=res->Gd c d r->r.e=0->env.get 0=rp j->env.get 1=rp k →
  LI Tryz.prog N drawB l149_0 env (w2 H j k (pdO c r) ⟨enC lb H.length m p,78,0,true⟩++enL l m G) K:=by
 have hct:c.ts.length<4611686018427387904:=by omega
 have out:∀ (l:List Ex) (m:Nat) (r:Rd) (G:List AO) (env:Env),peekR c [44] r=false->(l,r)=res->l.length=m+1->Gd c d r->r.e=0->env.get 0=rp j->env.get 1=rp k →
  LI Tryz.prog N drawB l149_0 env (w2 H j k (pdO c r) ⟨enC lb H.length m p,78,0,true⟩++enL l m G) K:=by
  intro l m r G env hp hr hlm hg he h0 h1
  refine li_go hm l149_0.eq_1 ?_
  have h90:=fun p L=>ok90 hn (w2_j (o:=pdO c r) (p:=p) hJ L) (by have:=hg.a; omega) he (s:=[44]) rfl
  simp -implicitDefEqProofs[h0,h1,rp]
  refine call_go (by simpa[rp]using h90 _ _) ?_
  simp only[accR,hp]
  simp -implicitDefEqProofs[h0,h1,hp]
  rw[w2_setj hJ]
  subst hr
  exact hexit he hg _ G m hlm (by simp[h0]) (by simp[h1])
 intro n
 induction n with
 | zero =>
  intro l m r G env hna hlm hlr hr hg he h0 h1
  exact out l m r G env (by rw[←Bool.not_eq_true]; intro h; have:=peek_lt h; omega) hr hlm hg he h0 h1
 | succ n ih =>
  intro l m r G env hna hlm hlr hr hg he h0 h1
  rw[exprsL]at hr
  by_cases hp:peekR c [44] r=true
  · rw[if_pos hp]at hr
    simp only[t2_acc hp]at hr
    have ha:=hg.a
    have hg1:=hg.next (peek_lt hp)
    have he1:(nextR r).e=0:=he
    have e2:=fun o cs L f=>w2_sok (o:=o) (p:=⟨cs,78,0,true⟩) hJ L f
    have e3:=fun o cs L=>w2_ock (o:=o) hJ cs 78 L
    have h90:=fun p L=>ok90 hn (w2_j (o:=pdO c r) (p:=p) hJ L) (by omega) he (s:=[44]) rfl
    have h79:=fun p L e=>ok79 (w2_j (o:=pdO c (nextR r)) (p:=p) hJ L) e
    have h183:=fun p L=>ok183 hn (w2_j (o:=pdO c (nextR r)) (p:=p) hJ L) he1
    have hc:=fun p L=>hF (w2_j (o:=pdO c (nextR r)) (p:=p) hJ L) hg1 he1
    refine li_go hm l149_0.eq_1 ?_
    simp -implicitDefEqProofs[h0,h1,rp]
    refine call_go (by simpa[rp]using h90 _ _) ?_
    rw[w2_setj hJ]
    simp only[accR,hp,if_true]
    simp -implicitDefEqProofs[h0,h1,hp,rp,e2,e3,enC,enL]
    by_cases h32:l.length=32
    · have h32':(m:Int)+1=32:=by omega
      simp -implicitDefEqProofs[h0,h1,rp,e2,e3,h32']
      refine call_go (by simpa[rp]using h183 _ _) ?_
      by_cases hb:begR c (nextR r)=true
      · rw[if_pos ⟨h32,hb⟩]at hr
        have hf:=fail_keep (e:=12) (by decide) hg1
        have f12:(failR c 12 (nextR r)).e=12∧(failR c 12 (nextR r)).p=hereR c (nextR r):=by simp[failR,he1]
        rw[hst _ hf.2.2,exprsL_bad hf.2.2]at hr
        simp -implicitDefEqProofs[h0,h1,rp,hb]
        refine call_go (by simpa[rp]using h79 _ _ 12) ?_
        simp -implicitDefEqProofs
        have:=hpan (by rw[←hr]; exact hf.2.2)
        rw[←hr]at this
        simp only[f12.1,f12.2]at this
        exact this _ _ (Keep.w2 hJ (Keep.refl _ _))
      · rw[if_neg (fun h=>hb h.2)]at hr
        rw[Bool.not_eq_true]at hb
        have hf:=fail_keep (e:=11) (by decide) hg1
        have f11:(failR c 11 (nextR r)).e=11∧(failR c 11 (nextR r)).p=hereR c (nextR r):=by simp[failR,he1]
        rw[hnb _ he1 hb,exprsL_bad hf.2.2]at hr
        simp -implicitDefEqProofs[h0,h1,rp,hb]
        refine call_go (by simpa[rp]using h79 _ _ 11) ?_
        simp -implicitDefEqProofs
        have:=hpan (by rw[←hr]; exact hf.2.2)
        rw[←hr]at this
        simp only[f11.1,f11.2]at this
        exact this _ _ (Keep.w2 hJ (Keep.refl _ _))
    · have h32':¬ (m:Int)+1=32:=by omega
      rw[if_neg (fun h=>h32 h.1)]at hr
      have hk2:=hkF _ hg1
      simp -implicitDefEqProofs[h0,h1,rp,e2,e3,h32']
      refine call_goP (by simpa[rp,enC,enL]using hc _ _) ?_
      intro o H' hq
      unfold PdP PdV at hq
      generalize F (nextR r)=q at hq hr hk2
      by_cases he2:q.2.e=0
      · rw[if_pos he2]at hq
        obtain⟨rfl,rfl⟩:=hq
        rw[w2_setj hJ]
        have hcl5:(Ex.cL l).length=(m+1)*5:=by rw[cL_len,hlm]
        simp -implicitDefEqProofs[h0,h1,rp,e2,e3,Ex.v,hcl5]
        have nx:∀ env,env.get 0=rp j->env.get 1=rp k->LI Tryz.prog N drawB l149_0 env (w2 H j k (pdO c q.2) ⟨[i64 3,st (B lb),st (B []),i64 0,i64 0,nl,bl false,nl,nl,nl,.own (H.length+1) 0 (m+1+1) 5 (m+1),i64 p],78,0,true⟩++(⟨[st (B [123]),st (B [112,97,121])],9,0,true⟩::⟨Ex.cL l++(q.1.c++List.drop ((m+1)*5+5) (Ex.cL l++[i64 0,i64 0,st ⟨#[]⟩,.val (.slice none 0 0),i64 0])),25,m+1,true⟩::G)) K:=by
         intro env g0 g1
         have hdr:List.drop ((m+1)*5+5) (Ex.cL l++[i64 0,i64 0,st ⟨#[]⟩,.val (.slice none 0 0),i64 0])=[]:=List.drop_of_length_le (by simp[hcl5])
         rw[hdr,List.append_nil]
         have hna1:(nextR r).a=r.a+1:=rfl
         refine LI.cong ?_ (ih (l++[q.1]) (m+1) q.2 G env (by omega) (by simp[hlm]) (by simp; omega) hr hk2.1 he2 g0 g1)
         simp[enC,enL,cL_snoc]
        refine⟨rfl,by omega,by omega,?_⟩
        repeat' constructor
        all_goals first | omega | (refine nx _ ?_ ?_<;>simp[dreK,rp])
      · rw[if_neg he2]at hq
        obtain⟨rfl,hk⟩:=hq
        simp -implicitDefEqProofs
        rw[exprsL_bad he2]at hr
        subst hr
        exact hpan he2 _ _ (hk.w2 hJ)
  · rw[if_neg hp]at hr
    rw[Bool.not_eq_true]at hp
    exact out l m r G env hp hr hlm hg he h0 h1
end
end Go.Proofs.YtmkdpmfhlfhjkaaGreatDoor
namespace Go.Proofs.YtmkdpmfhlfhjkaaGreatDoor
open Go.Ab
section
variable {H:List AO} {c:Cx} {r:Rd} {j k:Nat} {lb:List UInt8} {p:Int} {F:Rd->Ex×Rd}
theorem pend_t4 (hn:NumT c) (h20:c.ts.length≤20000) (hcl:closed H) (hJ:J2 H j k) (he:r.e=0) (ha:r.a≤c.ts.length) {l:List Ex} {m:Nat} (hlm:l.length=m+1) {G:List AO} {env:Env} (h0:env.get 0=rp j) {res:StageP×Rd}
 (hres:(⟨3,lb,[],0,0,[],false,[],[],[],l,p⟩,t2 c [125] (t2 c [59] r))=res) :
 X Tryz.prog Tryz.f149.ntmps drawB (IC.tl 4 i149) env (w2 H j k (pdO c r) ⟨enC lb H.length m p,78,0,true⟩++enL l m G) (FinP H.length r149 (PdS c H j k res)):=by
 have hct:c.ts.length<4611686018427387904:=by omega
 subst hres
 have hw:=want_at (p:=⟨enC lb H.length m p,78,0,true⟩) (L:=enL l m (G++[⟨[st (B [59]),st (B [125])],9,0,true⟩])) (q:=G.length+2) (n:=2) (T:=9) (ver:=0) (l:=[[59],[125]]) hn hct hJ (by simp[wds,enL]) rfl (by simp) (by intro s hs; simp at hs; rcases hs with rfl | rfl<;>rfl) he ha
 simp -implicitDefEqProofs[IC.tl,i149,r149,h0,rp,enL]
 refine pd_call (by simpa[rp,enL]using hw) (fun he2 => ?_) (fun he2 H' hk => ?_)
 · rw[w2_setj hJ]
   simp -implicitDefEqProofs
   rw[wantR2]at he2 ⊢
   refine⟨_,_,PdS.ret (q:=(⟨3,lb,[],0,0,[],false,[],[],[],l,p⟩,t2 c [125] (t2 c [59] r))) he2 rfl,?_⟩
   refine st_cv (L:=enL l m (G++[⟨[st (B [59]),st (B [125])],9,0,true⟩])) rfl hcl hJ ?_
   have e1:=(Rw.own (n:=H.length) (q:=1) (m:=m+1) (sz:=5) (ver:=m) (T:=25) (L:=enL l m (G++[⟨[st (B [59]),st (B [125])],9,0,true⟩])) (cells:=Ex.cL l) rfl (by rw[cL_len,hlm]) (Ex.undL _ l)).fz [] 1
   simp only[List.append_nil]at e1
   have hl0:l≠[]:=by rintro rfl; simp at hlm
   simp only[enC,List.map_cons,List.map_nil,StageP.cN,e1]
   simp[exN,acN,inN,hl0,exS,hlm]
 · simp -implicitDefEqProofs
   exact⟨_,_,PdS.pan (q:=(⟨3,lb,[],0,0,[],false,[],[],[],l,p⟩,t2 c [125] (t2 c [59] r))) he2 (hk.w2 hJ),cv_id⟩
theorem ok149 (hn:NumT c) (h20:c.ts.length≤20000) (hJ:J2 H j k) {d:Nat} (hF:PdC c 32 [] F d) (hkF:Kp c d F) (hst:Still F) (hnb:Nb c F) (ho:H[j]? = some (pdO c r)) (hk0:H[k]? = some ⟨sC lb p,78,0,true⟩) (hg:Gd c d r) (he:r.e=0) :
 OkP Tryz.prog 149 [rp j,rp k] H (PdS c H j k (endT c F lb p r)):=by
 have hct:c.ts.length<4611686018427387904:=by omega
 have ha:=hg.a
 have e2n:=fun o cs f=>w2_sok0 (o:=o) (p:=⟨cs,78,0,true⟩) hJ f
 have e3n:=fun o cs=>w2_ock0 (o:=o) hJ cs 78
 have e2:=fun o cs L f=>w2_sok (o:=o) (p:=⟨cs,78,0,true⟩) hJ L f
 have e3:=fun o cs L=>w2_ock (o:=o) hJ cs 78 L
 refine okP_fn hm Tryz.func149 c149 (by simp[rp,SV.under,hJ.lj,hJ.lk]) fun hcl => ?_
 refine Xc (H':=w2 H j k (pdO c r) ⟨sC lb p,78,0,true⟩) (w2_same ho hk0) ?_
 have tail:∀ (l:List Ex) (m:Nat) (r:Rd) (G:List AO) (env:Env) (res:StageP×Rd),r.e=0->r.a≤c.ts.length->l.length=m+1->env.get 0=rp j->_->_:=fun l m r G env res he ha hlm h0 hr=>pend_t4 (lb:=lb) (p:=p) (G:=G) (env:=env) (res:=res) (l:=l) (m:=m) hn h20 hcl hJ he ha hlm h0 hr
 rw[show i149=.seq (IC.nth 0 i149) (.seq (IC.nth 1 i149) (.seq (IC.nth 2 i149) (.seq (IC.nth 3 i149) (IC.tl 4 i149))))from rfl]
 generalize IC.tl 4 i149=t4 at tail ⊢
 generalize hres:endT c F lb p r=res
 unfold endT exprsR at hres
 have bad:∀ rf:Rd,rf.e≠0->res.2=rf->∀ H',Keep H [j,k] H'->PdS c H j k res (.pan (fltI rf.e rf.p)) H':=by
  intro rf hf hs H' hk
  rw[←hs]at hf ⊢
  exact PdS.pan hf hk
 have hw:=want_at (p:=⟨[i64 3,st (B lb),st (B []),i64 0,i64 0,nl,bl false,nl,nl,nl,nl,i64 p],78,0,true⟩) (L:=[⟨[st (B [123]),st (B [112,97,121])],9,0,true⟩]) (q:=0) (n:=2) (T:=9) (ver:=0) (l:=[[123],[112,97,121]]) hn hct hJ (by simp[wds]) rfl (by simp) (by intro s hs; simp at hs; rcases hs with rfl | rfl<;>rfl) he ha
 have hg1:=(t2_keep (c:=c) (d:=d) [112,97,121] (t2_keep (c:=c) (d:=d) [123] hg).1).1
 simp -implicitDefEqProofs[IC.nth,i149,r149,rp,e2n,e3n,sC]
 refine pd_call (by simpa[rp]using hw) (fun he1 => ?_) (fun he1 H' hk => ?_)
 · rw[w2_setj hJ]
   simp only[wantR2]at he1 ⊢
   have hp1:=(t2_strict he1).2
   generalize t2 c [112,97,121] (t2 c [123] r)=r1 at hg1 he1 hres hp1 ⊢
   have hc:=fun p L=>hF (w2_j (o:=pdO c r1) (p:=p) hJ L) hg1 he1
   have hg2:=(hkF _ hg1).1
   have hka:=(hkF _ hg1).2
   simp -implicitDefEqProofs[rp,e2,e3]
   refine call_goP (by simpa[rp]using hc _ _) ?_
   intro o H' hq
   unfold PdP PdV at hq
   generalize F r1=q at hq hg2 hres hka
   by_cases he2:q.2.e=0
   · rw[if_pos he2]at hq
     obtain⟨rfl,rfl⟩:=hq
     rw[w2_setj hJ]
     have hpos:1≤q.2.a:=by omega
     simp -implicitDefEqProofs[rp,e2,e3,Ex.v]
     generalize hs:exprsL c F c.ts.length [q.1] q.2=s at hres
     refine LI.cong (H':=w2 H j k (pdO c q.2) ⟨enC lb H.length 0 p,78,0,true⟩++enL [q.1] 0 []) (by simp[enC,enL,Ex.cL]) ?_
     refine loop149 hn h20 hJ hF hkF hst hnb (res:=s) (fun hs0 hgs env G m hlm h0 h1 => ?_) (fun hs0 env H' hk => ?_) c.ts.length [q.1] 0 q.2 [] _ (by omega) rfl (by simpa using hpos) hs hg2 he2 ?_ ?_
     · simp -implicitDefEqProofs
       exact tail s.1 m s.2 G env res hs0 hgs.a hlm h0 hres
     · simp -implicitDefEqProofs
       exact⟨_,_,bad s.2 hs0 (by rw[←hres]; simp only[t2_still _ hs0]) _ hk,cv_id⟩
     all_goals simp[rp]
   · rw[if_neg he2]at hq
     obtain⟨rfl,hk⟩:=hq
     simp -implicitDefEqProofs
     refine⟨_,_,bad _ he2 ?_ _ (hk.w2 hJ),cv_id⟩
     rw[←hres,exprsL_bad he2]
     simp only[t2_still _ he2]
 · simp -implicitDefEqProofs
   rw[wantR2]at he1
   refine⟨_,_,bad _ he1 ?_ _ (hk.w2 hJ),cv_id⟩
   rw[←hres]
   generalize t2 c [112,97,121] (t2 c [123] r)=r1 at he1
   have hF1:=hst r1 he1
   rw[hF1,exprsL_bad he1]
   simp only[t2_still _ he1]
end
end Go.Proofs.YtmkdpmfhlfhjkaaGreatDoor
namespace Go.Proofs.YtmkdpmfhlfhjkaaGreatDoor
open Go.Ab
section
variable {H:List AO} {c:Cx} {r:Rd} {j:Nat} {F:Rd->Ex×Rd}
def stageT (c:Cx) (F:Rd->Ex×Rd) (r:Rd):StageP×Rd :=
 let l:=labelR c r
 if peekR c [100,101,97,108] l.2=true then dealT c F l.1 (hereR c l.2) (nextR l.2)
 else if peekR c [116,117,114,110] l.2=true then turnT c F l.1 (hereR c l.2) (nextR l.2)
 else if peekR c [101,110,100] l.2=true then endT c F l.1 (hereR c l.2) (nextR l.2)
 else(zStage,failR c 11 l.2)
theorem stage_qe (hst:Still F):Qe (stageT c F r) (stageR c F r):=by
 unfold stageT stageR
 simp only
 generalize labelR c r=l
 by_cases h1:peekR c [100,101,97,108] l.2=true
 · rw[if_pos h1,if_pos h1,dealT_eq,t2_acc h1]
   by_cases he:(dealT c F l.1 (hereR c l.2) (nextR l.2)).2.e=0
   · exact .inl ⟨he,rfl⟩
   · exact .inr ⟨he,rfl,rfl⟩
 · rw[if_neg h1,if_neg h1]
   by_cases h2:peekR c [116,117,114,110] l.2=true
   · rw[if_pos h2,if_pos h2,turnT_eq,t2_acc h2]
     by_cases he:(turnT c F l.1 (hereR c l.2) (nextR l.2)).2.e=0
     · exact .inl ⟨he,rfl⟩
     · exact .inr ⟨he,rfl,rfl⟩
   · rw[if_neg h2,if_neg h2]
     by_cases h3:peekR c [101,110,100] l.2=true
     · rw[if_pos h3]
       have e:(takeR c [101,110,100] l.2).2=nextR l.2:=by simp[takeR,h3]
       have e1:(takeR c [101,110,100] l.2).1=hereR c l.2:=rfl
       simp only[e,e1]
       by_cases he:(endT c F l.1 (hereR c l.2) (nextR l.2)).2.e=0
       · exact .inl ⟨he,rfl⟩
       · exact .inr ⟨he,rfl,rfl⟩
     · rw[if_neg h3]
       rw[Bool.not_eq_true]at h3
       have e:(takeR c [101,110,100] l.2).2=failR c 11 l.2:=by simp[takeR,h3]
       simp only[e]
       by_cases he:l.2.e=0
       · have hb:(failR c 11 l.2).e≠0:=by simp[failR,he]
         refine .inr ⟨hb,?_,?_⟩<;>simp only[t2_still _ hb,exprs_still hst _ hb]
       · rw[fail_bad he]
         refine .inr ⟨he,?_,?_⟩<;>simp only[t2_still _ he,exprs_still hst _ he]
theorem w2_s1 {o z S o' p':AO} {L:List AO} (hj:j<H.length):w2 (H.set j o++(z::S::L)) j (H.length+1) o' p'=H.set j o'++(z::p'::L):=by
 rw[w2,s1_set hj,List.set_append_right _ _ (by simp)]
 simp
theorem J2.s1 {o z S:AO} {L:List AO} (hj:j<H.length):J2 (H.set j o++(z::S::L)) j (H.length+1):=⟨by simp; omega,by simp,by omega⟩
theorem Keep.s1 {o:AO} {L H':List AO} (h:Keep (H.set j o++L) [j,H.length+1] H'):Keep H [j] H':=by
 refine⟨Nat.le_trans (by simp) h.len,fun i hi hn => ?_⟩
 simp only[List.mem_cons,List.not_mem_nil,or_false]at hn
 rw[h.at_ i (by simp; omega) (by simp[hn]; omega),List.getElem?_append_left (by simpa using hi),List.getElem?_set_ne (Ne.symm hn)]
theorem map_at {o z S:AO} {L:List AO} {ks:List Value} {vs:List SV} {T v:Nat}:SV.mapOf (H.set j o++(z::S::(L++[⟨.mk ks::vs,T,v,false⟩]))) (.mp (H.length+(L.length+2)) v)=some (ks,vs):=by
 have h:(H.set j o++(z::S::(L++[⟨.mk ks::vs,T,v,false⟩])))[H.length+(L.length+2)]? = some ⟨.mk ks::vs,T,v,false⟩:=by
  rw[List.getElem?_append_right (by simp)]
  simp
 simp only[SV.mapOf,h]
 rw[if_pos ⟨trivial,trivial⟩]
def knK:List Value:=[.string ⟨#[100,101,97,108]⟩,.string ⟨#[116,117,114,110]⟩,.string ⟨#[101,110,100]⟩]
def knV:List SV:=[.fn (.func 147) [] [],.fn (.func 148) [] [],.fn (.func 149) [] []]
def knM:AO:=⟨.mk knK::knV,184,0,false⟩
theorem kn_look (s:List UInt8):lkm (.string (B s)) knK knV=if s=[100,101,97,108]then some (.fn (.func 147) [] [])else if s=[116,117,114,110]then some (.fn (.func 148) [] [])else if s=[101,110,100]then some (.fn (.func 149) [] [])else none:=by
 have e1:(⟨#[100,101,97,108]⟩:ByteArray)=B [100,101,97,108]:=rfl
 have e2:(⟨#[116,117,114,110]⟩:ByteArray)=B [116,117,114,110]:=rfl
 have e3:(⟨#[101,110,100]⟩:ByteArray)=B [101,110,100]:=rfl
 simp only[knK,knV,e1,e2,e3,lkm,vkeq,B_list]
 by_cases h1:s=[100,101,97,108]
 · simp[h1]
 · by_cases h2:s=[116,117,114,110]
   · simp[h1,h2]
   · by_cases h3:s=[101,110,100]
     · simp[h1,h2,h3]
     · simp[h1,h2,h3]
theorem cN_len (x:StageP):(StageP.cN x).length=12:=rfl
theorem cN_take (x:StageP):List.take 12 (StageP.cN x)=StageP.cN x:=rfl
theorem cN_ok (x:StageP):cellsOk (StageP.cN x):=by
 intro s hs
 simp[StageP.cN]at hs
 rcases hs with rfl | rfl | rfl | rfl | rfl | rfl | rfl | rfl | rfl | rfl | rfl | rfl<;>simp
theorem cN_und (n:Nat) (x:StageP):SV.underL n (StageP.cN x)=true:=by simp[StageP.cN,SV.underL,SV.under]
theorem pstage_t3 (hn:NumT c) (h20:c.ts.length≤20000) (hj:j<H.length) (hcl:closed H) {d:Nat} (hF:PdC c 32 [] F d) (hkF:Kp c d F) (hst:Still F) (hnb:Nb c F) (hg:Gd c d r) (he:r.e=0) {lb:List UInt8} {L:List AO} {env:Env} {res:StageP×Rd}
 (hres:(if peekR c [100,101,97,108] r=true then dealT c F lb (hereR c r) (nextR r)else if peekR c [116,117,114,110] r=true then turnT c F lb (hereR c r) (nextR r)else if peekR c [101,110,100] r=true then endT c F lb (hereR c r) (nextR r)else(zStage,failR c 11 r))=res)
 (h0:env.get 0=rp j) (h2:env.get 2=rp H.length) (h3:env.get 3=rp (H.length+1)) :
 X Tryz.prog Tryz.f94.ntmps drawB (IC.tl 3 i94) env (H.set j (pdO c r)++(zS::lbO lb::L)) (FinP H.length r94 (PdV c H j stageV res)):=by
 have hct:c.ts.length<4611686018427387904:=by omega
 have h139:=fun L=>ok139 (s1_j hj (pdO c r) L)
 rw[show IC.tl 3 i94=.seq (IC.nth 3 i94) (IC.tl 4 i94)from rfl,show IC.tl 4 i94=.seq (IC.nth 4 i94) (IC.tl 5 i94)from rfl]
 generalize ht5:IC.tl 5 i94=t5
 simp -implicitDefEqProofs[IC.nth,i94,h0,h2,h3,rp]
 refine s_mup_go (x:=([],[])) map_at rfl rfl rfl ?_
 simp -implicitDefEqProofs[msetK,msetV,vkeq,SV.key]
 refine s_mup_go (x:=([.string ⟨#[100,101,97,108]⟩],[.fn (.func 147) [] []])) map_at rfl rfl rfl ?_
 simp -implicitDefEqProofs[msetK,msetV,vkeq,SV.key]
 refine s_mup_go (x:=([.string ⟨#[100,101,97,108]⟩,.string ⟨#[116,117,114,110]⟩],[.fn (.func 147) [] [],.fn (.func 148) [] []])) map_at rfl rfl rfl ?_
 simp -implicitDefEqProofs[msetK,msetV,vkeq,SV.key,h0,h2,h3,rp]
 refine call_go (by simpa[rp]using h139 _) ?_
 have hmp:∀ S,SV.mapOf (H.set j (pdO c r)++(zS::S::(L++[knM]))) (.mp (H.length+(L.length+2)) 0)=some (knK,knV):=fun S=>map_at
 simp only[knM,knK,knV]at hmp
 have hlk:=kn_look (tkR c r).tx
 simp only[knK,knV]at hlk
 have m1:(SV.mp (H.length+(L.length+2)) 0).ug=.mp (H.length+(L.length+2)) 0:=rfl
 have m2:(SV.mp (H.length+(L.length+2)) 0).vd=true:=rfl
 have q1:=peek_tk (c:=c) (r:=r) hn (s:=[100,101,97,108]) rfl he
 have q2:=peek_tk (c:=c) (r:=r) hn (s:=[116,117,114,110]) rfl he
 have q3:=peek_tk (c:=c) (r:=r) hn (s:=[101,110,100]) rfl he
 rw[q1,q2,q3]at hres
 simp only[decide_eq_true_eq]at hres
 have bad:∀ rf:Rd,rf.e≠0->res.2=rf->∀ H',Keep H [j] H'->PdV c H j stageV res (.pan (fltI rf.e rf.p)) H':=by
  intro rf hf hs H' hk
  rw[←hs]at hf ⊢
  exact PdV.pan hf hk
 simp -implicitDefEqProofs[Tok.v,Tok.c,key_st,isK_st,hmp,hlk,m1,m2,h0,h2,h3,rp]
 have h79:=fun L=>ok79 (s1_j hj (pdO c r) L) 11
 have h140:=fun L (h:r.a<4611686018427387904)=>ok140 (s1_j hj (pdO c r) L) h
 have fin:∀ (f:Nat) (env:Env) (q:StageP×Rd),q=res->r.a<c.ts.length->env.get 0=rp j->env.get 2=rp H.length->env.get 3=rp (H.length+1)->env.get 5=.fn (.func f) [] []->env.get 6=bl true →
  (∀ G:List AO,J2 G j (H.length+1)->G[j]? = some (pdO c (nextR r))->G[H.length+1]? = some ⟨sC lb (hereR c r),78,0,true⟩->OkP Tryz.prog f [rp j,rp (H.length+1)] G (PdS c G j (H.length+1) q)) →
  X Tryz.prog Tryz.f94.ntmps drawB t5 env (H.set j (pdO c r)++(zS::lbO lb::(L++[⟨.mk knK::knV,184,0,false⟩]))) (FinP H.length r94 (PdV c H j stageV res)):=by
  intro f env q hq hlt h0 h2 h3 h5 h6 hf
  subst hq
  rw[←ht5]
  have hfG:=hf (H.set j (pdO c (nextR r))++(zS::⟨sC lb (hereR c r),78,0,true⟩::(L++[⟨.mk knK::knV,184,0,false⟩]))) (J2.s1 hj) (s1_j hj _ _) (by simp)
  simp -implicitDefEqProofs[IC.tl,i94,r94,h0,h2,h3,h5,h6,rp]
  refine call_go (by simpa[rp]using ok91p (c:=c) hj r _) ?_
  simp -implicitDefEqProofs[h0,h2,h3,h5,h6,rp,lbO]
  refine call_go (by simpa[rp]using h140 _ (by omega)) ?_
  rw[s1_set hj]
  simp -implicitDefEqProofs[h0,h2,h3,h5,h6,rp]
  refine call_goP (by simpa[rp,sC]using hfG) ?_
  intro o H' hp
  unfold PdS at hp
  by_cases he2:q.2.e=0
  · rw[if_pos he2]at hp
    obtain⟨rfl,rfl⟩:=hp
    rw[w2_s1 hj]
    have c1:=cN_len q.1
    have c2:=cN_take q.1
    have c3:=eq_true (cN_ok q.1)
    simp -implicitDefEqProofs[h0,h2,h3,rp,stO,zS,c1,c2,c3]
    refine⟨_,_,PdV.got (x:=q.1) he2 rfl rfl rfl,?_⟩
    refine Cv.le (cv_fz (n0:=H.length) (r:=.agg (StageP.cN q.1)) 3 (closed_pd (c:=c) (a:=q.2.a) (v:=q.2.v) hcl) (by simp) ?_) (le_agg (cN_le _))
    exact fz_under (by simp only[SV.under]; exact cN_und _ _)
  · rw[if_neg he2]at hp
    obtain⟨rfl,hk⟩:=hp
    simp -implicitDefEqProofs
    exact⟨_,_,PdV.pan he2 hk.s1,cv_id⟩
 have lt_of:∀ s:List UInt8,peekR c s r=true->r.a<c.ts.length:=fun s h=>peek_lt h
 by_cases h1:(tkR c r).tx=[100,101,97,108]
 · rw[if_pos h1]at hres
   simp -implicitDefEqProofs[h1]
   refine⟨⟨rfl,rfl,rfl⟩,?_⟩
   refine fin 147 _ _ hres (lt_of _ (by rw[q1]; simpa using h1)) ?_ ?_ ?_ ?_ ?_ (fun G hJ hG1 hG2=>ok147 hn h20 hJ hF hkF hst hG1 hG2 (hg.next (lt_of _ (by rw[q1]; simpa using h1))) he)
   all_goals simp[h0,h2,h3,rp]
 · rw[if_neg h1]at hres
   by_cases h2':(tkR c r).tx=[116,117,114,110]
   · rw[if_pos h2']at hres
     simp -implicitDefEqProofs[h2']
     refine⟨⟨rfl,rfl,rfl⟩,?_⟩
     refine fin 148 _ _ hres (lt_of _ (by rw[q2]; simpa using h2')) ?_ ?_ ?_ ?_ ?_ (fun G hJ hG1 hG2=>ok148 hn h20 hJ hF hkF hst hG1 hG2 (hg.next (lt_of _ (by rw[q2]; simpa using h2'))) he)
     all_goals simp[h0,h2,h3,rp]
   · rw[if_neg h2']at hres
     by_cases h3':(tkR c r).tx=[101,110,100]
     · rw[if_pos h3']at hres
       simp -implicitDefEqProofs[h3']
       refine⟨⟨rfl,rfl,rfl⟩,?_⟩
       refine fin 149 _ _ hres (lt_of _ (by rw[q3]; simpa using h3')) ?_ ?_ ?_ ?_ ?_ (fun G hJ hG1 hG2=>ok149 hn h20 hJ hF hkF hst hnb hG1 hG2 (hg.next (lt_of _ (by rw[q3]; simpa using h3'))) he)
       all_goals simp[h0,h2,h3,rp]
     · rw[if_neg h3']at hres
       have hb:(failR c 11 r).e=11∧(failR c 11 r).p=hereR c r:=by simp[failR,he]
       rw[←ht5]
       simp -implicitDefEqProofs[h1,h2',h3',IC.tl,i94,h0,h2,h3,rp]
       refine⟨⟨rfl,rfl,rfl⟩,?_⟩
       have h79':=h79 (zS::lbO lb::(L++[knM]))
       simp only[knM,knK,knV,rp]at h79'
       refine call_go h79' ?_
       simp -implicitDefEqProofs
       have:=fun H' hk=>bad (failR c 11 r) (by rw[hb.1]; decide) (by rw[←hres]) H' hk
       rw[hb.1,hb.2]at this
       exact⟨_,_,this _ (Keep.of_set (o:=pdO c r) (Keep.refl _ _)),cv_id⟩
theorem ok94T (hn:NumT c) (h20:c.ts.length≤20000) {d:Nat} (hF:PdC c 32 [] F d) (hkF:Kp c d F) (hst:Still F) (hnb:Nb c F) (ho:H[j]? = some (pdO c r)) (hg:Gd c d r) (he:r.e=0):OkP Tryz.prog 94 [rp j] H (PdV c H j stageV (stageT c F r)):=by
 have hj:=getElem?_lt ho
 have hct:c.ts.length<4611686018427387904:=by omega
 have ha:=hg.a
 refine okP_fn hm Tryz.func94 c94 (by simp[rp,SV.under,hj]) fun hcl => ?_
 have tail:∀ (lb:List UInt8) (r1:Rd) (L:List AO) (env:Env),labelR c r=(lb,r1)->Gd c d r1->r1.e=0->env.get 0=rp j->env.get 2=rp H.length->env.get 3=rp (H.length+1) →
  X Tryz.prog Tryz.f94.ntmps drawB (IC.tl 3 i94) env (H.set j (pdO c r1)++(zS::lbO lb::L)) (FinP H.length r94 (PdV c H j stageV (stageT c F r))):=by
  intro lb r1 L env hl hg1 he1 h0 h2 h3
  exact pstage_t3 (lb:=lb) (L:=L) hn h20 hj hcl hF hkF hst hnb hg1 he1 (by unfold stageT; rw[hl]) h0 h2 h3
 have hbad:∀ rf:Rd,rf.e≠0->(labelR c r).2=rf->∀ H',Keep H [j] H'->PdV c H j stageV (stageT c F r) (.pan (fltI rf.e rf.p)) H':=by
  intro rf hf hs H' hk
  have:(stageT c F r).2=rf:=by
   unfold stageT
   simp only[hs]
   rw[if_neg (by rw[peek_bad hf]; decide),if_neg (by rw[peek_bad hf]; decide),if_neg (by rw[peek_bad hf]; decide)]
   exact fail_bad hf
  rw[←this]at hf ⊢
  exact PdV.pan hf hk
 have h92:=fun L=>ok92 (H:=H++L) (c:=c) (r:=r) (j:=j) (by rw[List.getElem?_append_left hj]; exact ho) he
 have h88:=fun L=>ok88p (c:=c) (r:=r) hj (by omega) he L false
 simp only[wordF_off]at h88
 rw[show i94=.seq (IC.nth 0 i94) (.seq (IC.nth 1 i94) (.seq (IC.nth 2 i94) (IC.tl 3 i94)))from rfl]
 generalize IC.tl 3 i94=t3 at tail ⊢
 refine Xc (H':=H.set j (pdO c r)++[]) (by rw[List.append_nil]; exact set_same ho) ?_
 have h92p:=fun L=>ok92 (s1_j hj (pdO c r) L) he
 simp -implicitDefEqProofs[IC.nth,i94,rp]
 refine call_go (by simpa[rp]using h92p _) ?_
 by_cases hp:freeR c r=true
 · have hl:labelR c r=((wordR c r).1,t2 c [58] (wordR c r).2):=by unfold labelR; rw[if_pos hp]
   have hg1:=(word_keep (c:=c) (d:=d) r hg).1
   rw[hl]at tail hbad
   simp -implicitDefEqProofs[hp,rp]
   generalize wordR c r=w at h88 hg1 tail hbad
   refine pd_call (by simpa[rp]using h88 _) (fun he1 => ?_) (fun he1 H' hk => ?_)
   · rw[s1_set hj]
     have hw:=want_p (H:=H) (j:=j) (r:=w.2) (L:=[zS,lbO w.1,⟨[st (B [58])],9,0,true⟩]) (q:=2) (n:=1) (T:=9) (ver:=0) (l:=[[58]]) hn hct hj (by simp[wds]) rfl (by simp) (by intro s hs; simp at hs; subst hs; rfl) he1 hg1.a
     have hg2:=(t2_keep (c:=c) (d:=d) [58] hg1).1
     simp -implicitDefEqProofs[rp]
     refine pd_call (by simpa[rp,zS,lbO]using hw) (fun he2 => ?_) (fun he2 H' hk => ?_)
     · rw[s1_set hj]
       simp only[wantR1]at he2 ⊢
       simp -implicitDefEqProofs[rp]
       refine Xc ?_ (tail w.1 (t2 c [58] w.2) [⟨[st (B [58])],9,0,true⟩] _ rfl hg2 he2 ?_ ?_ ?_)
       · simp[zS,lbO]
       all_goals simp[rp]
     · simp -implicitDefEqProofs
       rw[wantR1]at he2
       exact⟨_,_,hbad _ he2 rfl _ hk.of_set,cv_id⟩
   · simp -implicitDefEqProofs
     exact⟨_,_,hbad _ he1 (t2_still _ he1) _ hk.of_set,cv_id⟩
 · have hl:labelR c r=([],r):=by unfold labelR; rw[if_neg hp]
   simp -implicitDefEqProofs[hp]
   refine Xc ?_ (tail [] r [] _ hl hg he ?_ ?_ ?_)
   · simp[zS,lbO]
   all_goals simp[rp]
theorem ok94 (hn:NumT c) (h20:c.ts.length≤20000) {d:Nat} (hF:PdC c 32 [] F d) (hkF:Kp c d F) (hst:Still F) (hnb:Nb c F) (ho:H[j]? = some (pdO c r)) (hg:Gd c d r) (he:r.e=0):OkP Tryz.prog 94 [rp j] H (PdV c H j stageV (stageR c F r)) :=
 (ok94T hn h20 hF hkF hst hnb ho hg he).mono fun o H' h=>h.eqv (stage_qe hst)
end
end Go.Proofs.YtmkdpmfhlfhjkaaGreatDoor
namespace Go.Proofs.YtmkdpmfhlfhjkaaGreatDoor
open Go.Ab
theorem numR_rng:∀ (tx:List UInt8) (n:Int),0≤n->n≤1000000000->(∀ c∈tx,48≤c.toNat)->(numR tx n).1=0->0≤(numR tx n).2∧(numR tx n).2≤1000000000
 | [],n,h1,h2,_,_=>⟨h1,h2⟩
 | c::r,n,h1,h2,hd,he=>by
  unfold numR at he ⊢
  split at he
  · cases he
  · rename_i hn
    rw[if_neg hn]
    have:=hd c (by simp)
    exact numR_rng r _ (by omega) (by omega) (fun x hx=>hd x (by simp[hx])) he
theorem mkStp_num {l:List UInt8} {p q q':Nat} {k:Int} {t:Tok} (h:mkStp l p k q=.tok t q'):t.n=(whE l k (cut l p q) p).2∧(whE l k (cut l p q) p).1=0:=by
 unfold mkStp at h
 split at h
 · cases h
 · rename_i hn
   cases h
   exact⟨rfl,Classical.byContradiction hn⟩
theorem whE_one {l tx:List UInt8} {k:Int} {p:Nat} (hk:k≠2):(whE l k tx p).2=0:=by
 unfold whE
 split
 · rfl
 · split
   · rfl
   · rfl
theorem step_num {l:List UInt8} {p q:Nat} {t:Tok} (h:stepT l p=.tok t q):0≤t.n∧t.n≤1000000000:=by
 unfold stepT at h
 split at h
 · cases h
 · split at h
   · have:=(mkStp_num h).1; rw[whE_one (by decide)]at this; omega
   · split at h
     · obtain⟨h1,h2⟩:=mkStp_num h
       have hd:=run_digits (l:=l) (p:=p)
       generalize cut l p (runE l [3] p)=tx at h1 h2 hd
       rw[h1]
       unfold whE at h2 ⊢
       split at h2
       · cases h2
       · split at h2
         · cases h2
         · split at h2
           · rename_i h5; exact absurd rfl h5
           · split at h2
             · cases h2
             · rename_i a1 a2 a3 a4
               rw[if_neg a1,if_neg a2,if_neg a3,if_neg a4]
               exact numR_rng tx 0 (by decide) (by decide) (fun c hc=>(hd c hc).1) h2
     · split at h
       · have:=(mkStp_num h).1; rw[whE_one (by decide)]at this; omega
       · split at h
         · cases h
         · have:=(mkStp_num h).1; rw[whE_one (by decide)]at this; omega
def TokN (c:Cx):Prop:=∀ t∈c.ts,0≤t.n∧t.n≤1000000000
theorem tokN (l:List UInt8):TokN ⟨(scanG l).1,l.length⟩:=by
 intro t ht
 simp only at ht
 unfold scanG at ht
 split at ht
 · simp at ht
 · split at ht
   · obtain⟨p,q,hp,hs⟩:=toks_mem _ _ ht
     exact step_num hs
   · simp at ht
theorem nm_rng {c:Cx} (h:TokN c) (r:Rd):0≤(nmR c r).1∧(nmR c r).1≤1000000000:=by
 unfold nmR
 split
 · rename_i hp
   obtain⟨_,hlt,_⟩:=tokB_lt hp
   simp only[List.getD,List.getElem?_eq_getElem hlt,Option.getD_some]
   exact h _ (List.getElem_mem hlt)
 · simp
end Go.Proofs.YtmkdpmfhlfhjkaaGreatDoor
namespace Go.Proofs.YtmkdpmfhlfhjkaaGreatDoor
open Go.Ab
section
variable {H:List AO} {c:Cx} {r:Rd} {j:Nat}
theorem varR_eq (hN:TokN c) (l:List VarP) (hp:peekR c [118,97,114] r=true) {w:List UInt8×Rd} (hw:wordF c (decide (l.length=40)) (nextR r)=w) {f:Bool} (hf:peekR c [45] (t2 c [61] w.2)=f) {n:Int×Rd} (hn:nmR c (if f=true then nextR (t2 c [61] w.2)else t2 c [61] w.2)=n) :
 varR c l r=(⟨w.1,if f=true then IntKind.i64.wrap (-n.1)else n.1,hereR c (nextR r)⟩,t2 c [59] n.2):=by
 have hh:hereR c (if l.length=40∧freeR c (nextR r)=true then failR c 12 (nextR r)else nextR r)=hereR c (nextR r):=by
  split
  · unfold failR; split<;>rfl
  · rfl
 have hw':wordR c (if l.length=40∧freeR c (nextR r)=true then failR c 12 (nextR r)else nextR r)=w:=by
  rw[←hw]; unfold wordF; simp only[decide_eq_true_eq]
 have hr:=nm_rng hN (if f=true then nextR (t2 c [61] w.2)else t2 c [61] w.2)
 rw[hn]at hr
 unfold varR
 simp only[t2_acc hp,hh,hw']
 cases f with
 | true =>
  have hfl:flagR c [45] (t2 c [61] w.2)=(true,nextR (t2 c [61] w.2)):=by unfold flagR; rw[if_pos hf,t2_acc hf]
  rw[if_pos rfl]at hn
  simp only[hfl,hn,if_true,Int.neg_one_mul]
 | false =>
  have hfl:flagR c [45] (t2 c [61] w.2)=(false,t2 c [61] w.2):=by unfold flagR; rw[if_neg (by rw[hf]; decide)]
  rw[if_neg (by decide)]at hn
  have e:IntKind.i64.wrap n.1=n.1:=wrap_id (by omega) (by omega)
  simp[hfl,hn,e]
theorem vars_bad {n:Nat} {l:List VarP} (h:r.e≠0):varsL c n l r=(l,r):=by
 cases n with
 | zero=>rfl
 | succ n=>rw[varsL,if_neg (by rw[peek_bad h]; decide)]
def pOut (n:Nat) (nm:List UInt8) (pl:Int) (v s:Nat):AO:=⟨[st (B nm),i64 pl,.own (n+2) 0 v 3 v,.own (n+3) 0 s 12 s],36,0,true⟩
def rL (n:Nat) (nm:List UInt8) (pl:Int) (vs:List VarP) (ss:List StageP) (G:List AO):List AO:=zR::pOut n nm pl vs.length ss.length::varsO vs::stgsO ss::G
set_option maxHeartbeats 2000000 in
theorem loop39_0 (hn:NumT c) (hN:TokN c) (h20:c.ts.length≤20000) (hj:j<H.length) {d:Nat} {nm:List UInt8} {pl:Int} {N:Nat} {K:XE->Env->List AO->Prop} {res:List VarP×Rd}
 (hexit:res.2.e=0->Gd c d res.2->∀ env G,env.get 0=rp j->env.get 2=rp H.length->env.get 3=rp (H.length+1)->K (.exit 0) env (H.set j (pdO c res.2)++rL H.length nm pl res.1 [] G))
 (hpan:res.2.e≠0->∀ env H',Keep H [j] H'->K (.panic (fltI res.2.e res.2.p)) env H') :
 ∀ (n:Nat) (l:List VarP) (r:Rd) (G:List AO) (env:Env),c.ts.length≤r.a+n->l.length≤r.a->varsL c n l r=res->Gd c d r->r.e=0->env.get 0=rp j->env.get 2=rp H.length->env.get 3=rp (H.length+1) →
  LI Tryz.prog N drawB l39_0 env (H.set j (pdO c r)++rL H.length nm pl l [] G) K:=by
 have hct:c.ts.length<4611686018427387904:=by omega
 have out:∀ (l:List VarP) (r:Rd) (G:List AO) (env:Env),peekR c [118,97,114] r=false->(l,r)=res->Gd c d r->r.e=0->env.get 0=rp j->env.get 2=rp H.length->env.get 3=rp (H.length+1) →
  LI Tryz.prog N drawB l39_0 env (H.set j (pdO c r)++rL H.length nm pl l [] G) K:=by
  intro l r G env hp hr hg he h0 h2 h3
  refine li_go hm l39_0.eq_1 ?_
  have h90:=fun L=>ok90p (c:=c) (r:=r) hn hj (by have:=hg.a; omega) he L (s:=[118,97,114]) rfl
  simp -implicitDefEqProofs[h0,h2,h3,rp]
  refine call_go (by simpa[rp]using h90 _) ?_
  simp only[accR,hp]
  simp -implicitDefEqProofs[h0,h2,h3,hp]
  subst hr
  exact hexit he hg _ G (by simp[h0]) (by simp[h2]) (by simp[h3])
 intro n
 induction n with
 | zero =>
  intro l r G env hna hla hr hg he h0 h2 h3
  exact out l r G env (by rw[←Bool.not_eq_true]; intro h; have:=peek_lt h; omega) hr hg he h0 h2 h3
 | succ n ih =>
  intro l r G env hna hla hr hg he h0 h2 h3
  rw[varsL]at hr
  by_cases hp:peekR c [118,97,114] r=true
  · rw[if_pos hp]at hr
    have ha:=hg.a
    have hg1:=hg.next (peek_lt hp)
    have he1:(nextR r).e=0:=he
    obtain⟨k1,k2⟩:=varR_keep (c:=c) (d:=d) l r hg
    have k3:=varR_on (c:=c) (d:=d) l hg
    have hveq:=fun w (hw:wordF c (decide (l.length=40)) (nextR r)=w) f hf n hn=>varR_eq (c:=c) (r:=r) hN l hp (w:=w) hw (f:=f) hf (n:=n) hn
    have hd:(decide ((l.length:Int)=40))=decide (l.length=40):=by rw[decide_eq_decide]; omega
    have h90:=fun L=>ok90p (c:=c) (r:=r) hn hj (by omega) he L (s:=[118,97,114]) rfl
    have h88:=fun L=>ok88p (c:=c) (r:=nextR r) hj (by have:=hg1.a; omega) he1 L (decide (l.length=40))
    have hgw:=(wordF_keep (decide (l.length=40)) hg1).1
    refine li_go hm l39_0.eq_1 ?_
    simp -implicitDefEqProofs[h0,h2,h3,rp]
    refine call_go (by simpa[rp]using h90 _) ?_
    simp only[accR,hp,if_true]
    simp -implicitDefEqProofs[h0,h2,h3,hp,rp]
    refine call_go (by simpa[rp]using ok91p (c:=c) hj (nextR r) _) ?_
    simp -implicitDefEqProofs[h0,h2,h3,rp,rL,pOut,hd]
    generalize wordF c (decide (l.length=40)) (nextR r)=w at h88 hgw hveq
    have hveq:=hveq w rfl
    have bad:∀ rf:Rd,rf.e≠0->(varR c l r).2=rf->∀ env H',Keep H [j] H'->K (.panic (fltI rf.e rf.p)) env H':=by
     intro rf hf hs env H' hk
     rw[vars_bad (by rw[hs]; exact hf),hs]at hr
     subst hr
     exact hpan hf _ _ hk
    refine pd_call (by simpa[rp]using h88 _) (fun he2 => ?_) (fun he2 H' hk => ?_)
    · rw[s1_set hj]
      have hg2:=(t2_keep (c:=c) (d:=d) [61] hgw).1
      have hw:=want_p (H:=H) (j:=j) (r:=w.2) (L:=zR::pOut H.length nm pl l.length 0::varsO l::stgsO []::(G++[⟨[st (B w.1),i64 0,i64 (hereR c (nextR r))],75,0,true⟩,⟨[st (B [61])],9,0,true⟩])) (q:=G.length+1+4) (n:=1) (T:=9) (ver:=0) (l:=[[61]]) hn hct hj (by simp[wds]) rfl (by simp) (by intro s hs; simp at hs; subst hs; rfl) he2 hgw.a
      simp -implicitDefEqProofs[h0,h2,h3,rp]
      refine pd_call (by simpa[rp,pOut]using hw) (fun he3 => ?_) (fun he3 H' hk => ?_)
      · rw[s1_set hj]
        simp only[wantR1]at he3 ⊢
        generalize t2 c [61] w.2=r3 at hg2 he3 hveq ⊢
        have ha3:=hg2.a
        have h90:=fun L=>ok90p (c:=c) (r:=r3) hn hj (by omega) he3 L (s:=[45]) rfl
        have hga:Gd c d (accR c [45] r3):=by
         unfold accR; split
         · rename_i h; exact hg2.next (peek_lt h)
         · exact hg2
        have hea:(accR c [45] r3).e=0:=by unfold accR; split<;>exact he3
        have hveq:=fun n=>hveq (peekR c [45] r3) rfl n
        rw[←accR_eq]at hveq
        simp -implicitDefEqProofs[h0,h2,h3,rp]
        refine call_go (by simpa[rp]using h90 _) ?_
        generalize accR c [45] r3=r4 at hga hea hveq ⊢
        generalize peekR c [45] r3=f at hveq ⊢
        have h89:=fun L=>ok89p (c:=c) (r:=r4) hj (by have:=hga.a; omega) hea L false
        simp only[numF_off]at h89
        have hg4:=(num_keep (c:=c) (d:=d) r4 hga).1
        simp -implicitDefEqProofs[h0,h2,h3,rp]
        generalize nmR c r4=q at h89 hg4 hveq
        have hveq:=hveq q rfl
        refine pd_call (by simpa[rp]using h89 _) (fun he4 => ?_) (fun he4 H' hk => ?_)
        · rw[s1_set hj]
          have fin:∀ (N1:Int),N1=(if f=true then IntKind.i64.wrap (-q.1)else q.1)->OkP Tryz.prog 87 [rp j,.own (H.length+(G.length+6)) 0 1 1 0] (H.set j (pdO c q.2)++zR::pOut H.length nm pl l.length 0::varsO l::stgsO []::(G++[⟨[st (B w.1),i64 N1,i64 (hereR c (nextR r))],75,0,true⟩,⟨[st (B [61])],9,0,true⟩,⟨[st (B [59])],9,0,true⟩])) (PdV c (H.set j (pdO c q.2)++zR::pOut H.length nm pl l.length 0::varsO l::stgsO []::(G++[⟨[st (B w.1),i64 N1,i64 (hereR c (nextR r))],75,0,true⟩,⟨[st (B [61])],9,0,true⟩,⟨[st (B [59])],9,0,true⟩])) j (fun _:Unit=>.tup []) ((),wantR c [[59]] q.2)):=by
           intro N1 _
           exact want_p (H:=H) (j:=j) (r:=q.2) (q:=G.length+2+4) (n:=1) (T:=9) (ver:=0) (l:=[[59]]) hn hct hj (by simp[wds]) rfl (by simp) (by intro s hs; simp at hs; subst hs; rfl) he4 hg4.a
          have nxt:∀ (N1:Int) (env:Env) (G':List AO),N1=(if f=true then IntKind.i64.wrap (-q.1)else q.1)->(t2 c [59] q.2).e=0->env.get 0=rp j->env.get 2=rp H.length->env.get 3=rp (H.length+1) →
           LI Tryz.prog N drawB l39_0 env (H.set j (pdO c (t2 c [59] q.2))++zR::pOut H.length nm pl (l.length+1) 0::⟨rws VarP.c l++[st (B w.1),i64 N1,i64 (hereR c (nextR r))],75,l.length+1,true⟩::stgsO []::G') K:=by
           intro N1 env G' hN1 he5 h0 h2 h3
           have hs5:(varR c l r).2.e=0:=by rw[hveq]; exact he5
           have k3':=k3 hs5
           refine LI.cong ?_ (ih (l++[(varR c l r).1]) (varR c l r).2 G' env (by omega) (by simp; omega) hr k1 hs5 h0 h2 h3)
           rw[hveq,<- hN1]
           simp[rL,pOut,varsO,rws_app,rws,VarP.c]
          have bad5:(t2 c [59] q.2).e≠0->∀ env H',Keep H [j] H'->K (.panic (fltI (t2 c [59] q.2).e (t2 c [59] q.2).p)) env H':=fun h=>bad _ h (by rw[hveq])
          cases f with
          | true =>
           simp -implicitDefEqProofs[h0,h2,h3,rp]
           refine pd_call (by simpa[rp,pOut]using fin (IntKind.i64.wrap (-q.1)) (by simp)) (fun he5 => ?_) (fun he5 H' hk => ?_)
           · rw[s1_set hj]
             simp only[wantR1]at he5 ⊢
             simp -implicitDefEqProofs[h0,h2,h3,rp,varsO,rws_len VarP.c_len]
             refine⟨by omega,by omega,?_⟩
             refine LI.cong ?_ (nxt (IntKind.i64.wrap (-q.1)) _ (G++[⟨[st (B w.1),i64 (IntKind.i64.wrap (-q.1)),i64 (hereR c (nextR r))],75,0,true⟩,⟨[st (B [61])],9,0,true⟩,⟨[st (B [59])],9,0,true⟩,⟨[st (B w.1),i64 (IntKind.i64.wrap (-q.1)),i64 (hereR c (nextR r))],75,0,true⟩]) (by simp) he5 ?_ ?_ ?_)
             · simp[pOut]
             all_goals simp[h0,h2,h3,rp]
           · simp -implicitDefEqProofs
             rw[wantR1]at he5
             exact bad5 he5 _ _ hk.of_set
          | false =>
           simp -implicitDefEqProofs[h0,h2,h3,rp]
           refine pd_call (by simpa[rp,pOut]using fin q.1 (by simp)) (fun he5 => ?_) (fun he5 H' hk => ?_)
           · rw[s1_set hj]
             simp only[wantR1]at he5 ⊢
             simp -implicitDefEqProofs[h0,h2,h3,rp,varsO,rws_len VarP.c_len]
             refine⟨by omega,by omega,?_⟩
             refine LI.cong ?_ (nxt q.1 _ (G++[⟨[st (B w.1),i64 q.1,i64 (hereR c (nextR r))],75,0,true⟩,⟨[st (B [61])],9,0,true⟩,⟨[st (B [59])],9,0,true⟩,⟨[st (B w.1),i64 q.1,i64 (hereR c (nextR r))],75,0,true⟩]) (by simp) he5 ?_ ?_ ?_)
             · simp[pOut]
             all_goals simp[h0,h2,h3,rp]
           · simp -implicitDefEqProofs
             rw[wantR1]at he5
             exact bad5 he5 _ _ hk.of_set
        · simp -implicitDefEqProofs
          exact bad _ he4 (by rw[hveq]; exact t2_still _ he4) _ _ hk.of_set
      · simp -implicitDefEqProofs
        rw[wantR1]at he3
        have h2':=hveq false (peek_bad he3 _) (nmR c (t2 c [61] w.2)) (by rw[if_neg (by decide)])
        exact bad _ he3 (by rw[h2']; simp only[num_still _ he3,t2_still _ he3]) _ _ hk.of_set
    · simp -implicitDefEqProofs
      have ht:t2 c [61] w.2=w.2:=t2_still _ he2
      have h2':=hveq false (by rw[ht]; exact peek_bad he2 _) (nmR c w.2) (by rw[if_neg (by decide),ht])
      exact bad _ he2 (by rw[h2']; simp only[num_still _ he2,t2_still _ he2]) _ _ hk.of_set
  · rw[if_neg hp]at hr
    rw[Bool.not_eq_true]at hp
    exact out l r G env hp hr hg he h0 h2 h3
end
end Go.Proofs.YtmkdpmfhlfhjkaaGreatDoor
namespace Go.Proofs.YtmkdpmfhlfhjkaaGreatDoor
open Go.Ab
section
variable {H:List AO} {c:Cx} {r:Rd} {j:Nat} {F:Rd->Ex×Rd}
def begS (c:Cx) (r:Rd):Bool:=freeR c r||peekR c [100,101,97,108] r||peekR c [116,117,114,110] r||peekR c [101,110,100] r
theorem fullR_eq (l:List StageP):fullR c l r=if l.length=100∧begS c r=true then failR c 12 r else r:=rfl
theorem stage_no (hst:Still F) (he:r.e=0) (hb:begS c r=false):(stageR c F r).2=failR c 11 r:=by
 unfold begS at hb
 simp only[Bool.or_eq_false_iff]at hb
 obtain⟨⟨⟨h1,h2⟩,h3⟩,h4⟩:=hb
 have hl:labelR c r=([],r):=by unfold labelR; rw[if_neg (by simp[h1])]
 have hbad:(failR c 11 r).e≠0:=by simp[failR,he]
 have ht:(takeR c [101,110,100] r).2=failR c 11 r:=by simp[takeR,h4]
 unfold stageR
 simp only[hl]
 rw[if_neg (by simp[h2]),if_neg (by simp[h3])]
 simp only[ht,t2_still _ hbad,exprs_still hst _ hbad]
theorem stages_bad {n:Nat} {l:List StageP} (h:r.e≠0):stagesL c F n l r=(l,r):=by
 cases n with
 | zero=>rfl
 | succ n=>rw[stagesL,if_neg (fun h2=>h h2.1)]
theorem isB (hn:NumT c) (he:r.e=0):decide ((tkR c r).tx∈([[100,101,97,108],[116,117,114,110],[101,110,100]]:List (List UInt8)))=(peekR c [100,101,97,108] r||peekR c [116,117,114,110] r||peekR c [101,110,100] r):=by
 rw[peek_tk hn (s:=[100,101,97,108]) rfl he,peek_tk hn (s:=[116,117,114,110]) rfl he,peek_tk hn (s:=[101,110,100]) rfl he,Bool.eq_iff_iff]
 simp[or_assoc]
def k39:IC:=match l39_1 with | .keep _ a=>a | a=>a
def b39:IC:=match IC.nth 1 k39 with | .blk _ a=>a | a=>a
set_option maxHeartbeats 4000000 in
theorem loop39_1 (hn:NumT c) (h20:c.ts.length≤20000) (hj:j<H.length) {d:Nat} (hF:PdC c 32 [] F d) (hkF:Kp c d F) (hst:Still F) (hnb:Nb c F) {nm:List UInt8} {pl:Int} {vs:List VarP} {N:Nat} {K:XE->Env->List AO->Prop} {res:List StageP×Rd}
 (hexit:res.2.e=0->res.1≠[]->c.ts.length≤res.2.a->Gd c d res.2->∀ env G,env.get 2=rp H.length->env.get 3=rp (H.length+1)->K (.exit 2) env (H.set j (pdO c res.2)++rL H.length nm pl vs res.1 G))
 (hpan:res.2.e≠0->∀ env H',Keep H [j] H'->K (.panic (fltI res.2.e res.2.p)) env H') :
 ∀ (n:Nat) (l:List StageP) (r:Rd) (G:List AO) (env:Env),c.ts.length<r.a+n->l.length≤r.a->stagesL c F n l r=res->Gd c d r->r.e=0->env.get 0=rp j->env.get 2=rp H.length->env.get 3=rp (H.length+1) →
  LI Tryz.prog N drawB l39_1 env (H.set j (pdO c r)++rL H.length nm pl vs l G) K:=by
 have hct:c.ts.length<4611686018427387904:=by omega
 intro n
 induction n with
 | zero=>intro l r G env hna hla hr hg; have:=hg.a; omega
 | succ n ih =>
  intro l r G env hna hla hr hg he h0 h2 h3
  have ha:=hg.a
  rw[stagesL]at hr
  have hcode:l39_1=.keep [0,2,3] (.seq (IC.nth 0 k39) (IC.nth 1 k39)):=rfl
  refine li_go hm hcode ?_
  generalize hK:(fun(x:XE) (env:Env) (H:List AO)=>match x with | .normal=>LI Tryz.prog N drawB l39_1 env H K | x=>K x env H)=K'
  have hKn:∀ env H,K' .normal env H=LI Tryz.prog N drawB l39_1 env H K:=fun env H=>by rw[←hK]
  have hKp:∀ x env H,K' (.panic x) env H=K (.panic x) env H:=fun x env H=>by rw[←hK]
  have hKe:∀ n env H,K' (.exit n) env H=K (.exit n) env H:=fun n env H=>by rw[←hK]
  clear hK
  have e3:∀ L,objCells (H.set j (pdO c r)++L) j 0=pdC c r.a r.v:=fun L=>ocL (H:=H) hj _ 127 L
  have pd1:∀ h,(pdC c r.a r.v)[1]'(h)=i64 r.a:=fun _=>rfl
  have pd0:(pdC c r.a r.v).head?.getD .any=tksV c.ts:=rfl
  by_cases hcond:l=[]∨r.a<c.ts.length
  · rw[if_pos ⟨he,hcond⟩]at hr
    have body:∀ (env:Env),env.get 0=rp j->env.get 2=rp H.length->env.get 3=rp (H.length+1)->X Tryz.prog N drawB (IC.nth 1 k39) env (H.set j (pdO c r)++rL H.length nm pl vs l G) K':=by
     intro env h0 h2 h3
     have h92:=fun L=>ok92 (s1_j hj (pdO c r) L) he
     have h79:=fun L e=>ok79 (s1_j hj (pdO c r) L) e
     have h94:=fun L=>ok94 hn h20 hF hkF hst hnb (s1_j hj (pdO c r) L) hg he
     have hfe:=fullR_eq (c:=c) (r:=r) l
     have hsn:=stage_no (c:=c) (r:=r) hst he
     obtain⟨k1,k2⟩:=stageR_keep (c:=c) hkF r hg
     have k3:=stageR_on (c:=c) hkF hg
     have bad:∀ rf:Rd,rf.e≠0->(stageR c F (fullR c l r)).2=rf->∀ env H',Keep H [j] H'->K (.panic (fltI rf.e rf.p)) env H':=by
      intro rf hf hs env H' hk
      rw[hs,stages_bad hf]at hr
      subst hr
      exact hpan hf _ _ hk
     have f11:(failR c 11 r).e=11∧(failR c 11 r).p=hereR c r:=by simp[failR,he]
     have f12:(failR c 12 r).e=12∧(failR c 12 r).p=hereR c r:=by simp[failR,he]
     have hcode2:IC.nth 1 k39=.blk 3 (.seq (IC.nth 0 b39) (IC.tl 1 b39)):=rfl
     rw[hcode2,X_blk]
     generalize hB:(fun(x:XE) (env:Env) (H:List AO)=>match x with | .exit id=>if id=3 then K' .normal env H else K' (.exit id) env H | x=>K' x env H)=K''
     have hKn':∀ env H,K'' .normal env H=K' .normal env H:=fun env H=>by rw[←hB]
     have hKp':∀ x env H,K'' (.panic x) env H=K' (.panic x) env H:=fun x env H=>by rw[←hB]
     clear hB
     have rest:∀ (env:Env) (G:List AO),begS c r=true->env.get 0=rp j->env.get 2=rp H.length->env.get 3=rp (H.length+1) →
      X Tryz.prog N drawB (IC.tl 1 b39) env (H.set j (pdO c r)++rL H.length nm pl vs l G) K'':=by
      intro env G hb h0 h2 h3
      simp -implicitDefEqProofs[IC.tl,b39,k39,l39_1,IC.nth,h0,h2,h3,rp,rL,pOut]
      by_cases h100:l.length=100
      · have h100':(l.length:Int)=100:=by omega
        simp -implicitDefEqProofs[h0,h2,h3,rp,h100']
        refine call_go (by simpa[rp,pOut]using h79 _ 12) ?_
        simp -implicitDefEqProofs
        rw[hKp',hKp]
        have:=bad (failR c 12 r) (by rw[f12.1]; decide) (by rw[hfe,if_pos ⟨h100,hb⟩]; exact stage_still hst _ (by rw[f12.1]; decide))
        rw[f12.1,f12.2]at this
        exact this _ _ (Keep.of_set (Keep.refl _ _))
      · have h100':¬ (l.length:Int)=100:=by omega
        rw[if_neg (fun h=>h100 h.1)]at hfe
        rw[hfe]at bad hr
        simp -implicitDefEqProofs[h0,h2,h3,rp,h100']
        generalize stageR c F r=x at h94 k1 k2 k3 bad hr
        refine pd_call (by simpa[rp]using h94 _) (fun he1 => ?_) (fun he1 H' hk => ?_)
        · rw[s1_set hj]
          simp -implicitDefEqProofs[h0,h2,h3,rp,stageV,stgsO,rws_len StageP.c_len]
          refine⟨by omega,by omega,?_⟩
          rw[hKn',hKn]
          have k3':=k3 he1
          refine LI.cong ?_ (ih (l++[x.1]) x.2 (G++[⟨x.1.c,78,0,true⟩]) _ (by omega) (by simp; omega) hr k1 he1 ?_ ?_ ?_)
          · simp[rL,pOut,stgsO,rws_app,rws]
          all_goals simp[h0,h2,h3,rp]
        · simp -implicitDefEqProofs
          rw[hKp',hKp]
          exact bad _ he1 rfl _ _ hk.of_set
     generalize IC.tl 1 b39=t1 at rest ⊢
     simp -implicitDefEqProofs[IC.nth,b39,k39,l39_1,h0,h2,h3,rp,rL,pOut]
     refine call_go (by simpa[rp,pOut]using h92 _) ?_
     by_cases hf:freeR c r=true
     · simp -implicitDefEqProofs[h0,h2,h3,rp,hf]
       refine callq_off _ _ _ _ ?_
       simp -implicitDefEqProofs[h0,h2,h3,rp,hf]
       refine Xc rfl (rest _ G (by simp[begS,hf]) ?_ ?_ ?_)
       all_goals simp[h0,h2,h3,rp]
     · rw[Bool.not_eq_true]at hf
       have h93:=ok93 (s1_j hj (pdO c r) (zR::pOut H.length nm pl vs.length l.length::varsO vs::stgsO l::(G++[⟨[st (B [100,101,97,108]),st (B [116,117,114,110]),st (B [101,110,100])],9,0,true⟩]))) (x:=.own (H.length+(G.length+4)) 0 3 1 0) (l:=[[100,101,97,108],[116,117,114,110],[101,110,100]]) (by
        have:=IsS.own1 (H:=H.set j (pdO c r)) (L:=zR::pOut H.length nm pl vs.length l.length::varsO vs::stgsO l::(G++[⟨[st (B [100,101,97,108]),st (B [116,117,114,110]),st (B [101,110,100])],9,0,true⟩])) (k:=G.length+4) (T:=9) (ver:=0) (n:=3) (l:=[[100,101,97,108],[116,117,114,110],[101,110,100]]) (by simp[wds]) rfl
        simpa using this) (by simp)
       rw[isB hn he]at h93
       have hbe:begS c r=(peekR c [100,101,97,108] r||peekR c [116,117,114,110] r||peekR c [101,110,100] r):=by unfold begS; rw[hf]; simp
       rw[←hbe]at h93
       simp -implicitDefEqProofs[h0,h2,h3,rp,hf]
       refine callq_st (r:=bl (begS c r)) (fun _=>by simpa[rp,pOut,SV.strip]using h93) ?_
       cases hb:begS c r with
       | true =>
        simp -implicitDefEqProofs[h0,h2,h3,rp,hf,hb]
        refine Xc ?_ (rest _ (G++[⟨[st (B [100,101,97,108]),st (B [116,117,114,110]),st (B [101,110,100])],9,0,true⟩]) hb ?_ ?_ ?_)
        · simp[rL,pOut]
        all_goals simp[h0,h2,h3,rp]
       | false =>
        simp -implicitDefEqProofs[h0,h2,h3,rp,hf,hb]
        refine call_go (by simpa[rp,pOut]using h79 _ 11) ?_
        simp -implicitDefEqProofs
        rw[hKp',hKp]
        have:=bad (failR c 11 r) (by rw[f11.1]; decide) (by rw[hfe,if_neg (by simp[hb])]; exact hsn hb)
        rw[f11.1,f11.2]at this
        exact this _ _ (Keep.of_set (Keep.refl _ _))
    generalize IC.nth 1 k39=B1 at body ⊢
    by_cases hl0:l=[]
    · subst hl0
      simp -implicitDefEqProofs[IC.nth,k39,l39_1,h0,h2,h3,rp,rL,pOut,e3,pd1,pd0,pd_len]
      exact body _ (by simp[rp]) (by simp[rp]) (by simp[rp])
    · have hlt:=hcond.resolve_left hl0
      have hlt':(r.a:Int)<c.ts.length:=by omega
      simp -implicitDefEqProofs[IC.nth,k39,l39_1,h0,h2,h3,rp,rL,pOut,e3,pd1,pd0,pd_len,hl0,hlt,hlt',tksV]
      exact body _ (by simp[rp]) (by simp[rp]) (by simp[rp])
  · rw[if_neg (fun h=>hcond h.2)]at hr
    have hl0:l≠[]:=fun h=>hcond (.inl h)
    have hge:¬ r.a<c.ts.length:=fun h=>hcond (.inr h)
    have hge':¬ (r.a:Int)<c.ts.length:=by omega
    subst hr
    generalize IC.nth 1 k39=B1
    simp -implicitDefEqProofs[IC.nth,k39,l39_1,h0,h2,h3,rp,rL,pOut,e3,pd1,pd0,pd_len,hl0,hge,hge',tksV]
    rw[hKe]
    refine hexit he hl0 (Nat.not_lt.1 hge) hg _ G ?_ ?_<;>simp[rp]
end
end Go.Proofs.YtmkdpmfhlfhjkaaGreatDoor
namespace Go.Proofs.YtmkdpmfhlfhjkaaGreatDoor
open Go.Ab
section
variable {H:List AO} {c:Cx} {r:Rd} {j:Nat} {F:Rd->Ex×Rd} {nm:List UInt8} {pl:Int}
theorem pcv_rules {o:AO} (hcl:closed (H.set j o)) {vs:List VarP} {ss:List StageP} {z:AO} {G:List AO} :
 Cv H.length (.agg [st (B nm),i64 pl,.own (H.length+2) 0 vs.length 3 vs.length,.own (H.length+3) 0 ss.length 12 ss.length]) (H.set j o++(z::pOut H.length nm pl vs.length ss.length::varsO vs::stgsO ss::G)) (rulesV ⟨nm,pl,vs,ss⟩) (H.set j o):=by
 refine cv_fz (n0:=H.length) 4 hcl (by simp) ?_
 have e1:(rws VarP.c vs).take (vs.length*3)=rws VarP.c vs:=List.take_of_length_le (by rw[rws_len VarP.c_len]; exact Nat.le_refl _)
 have e2:(rws StageP.c ss).take (ss.length*12)=rws StageP.c ss:=List.take_of_length_le (by rw[rws_len StageP.c_len]; exact Nat.le_refl _)
 have m1:∀ L d,(rws VarP.c vs).map (SV.fz H.length [] L (d+1))=rws VarP.c vs:=fun L d=>map_fz_under _ _ _ _ (rws_under (VarP.und _) vs)
 have m2:∀ L d,(rws StageP.c ss).map (SV.fz H.length [] L (d+1))=rws StageP.c ss:=fun L d=>map_fz_under _ _ _ _ (rws_under (StageP.und _) ss)
 simp[rulesV,RulesP.c,varsO,stgsO,rws_len VarP.c_len,rws_len StageP.c_len,e1,e2,m1,m2]
theorem prules_t9 (hj:j<H.length) (hcl:closed H) (he:r.e=0) {vs:List VarP} {ss:List StageP} {G:List AO} {env:Env} {res:RulesP×Rd} (hres:(⟨nm,pl,vs,ss⟩,r)=res) (h2:env.get 2=rp H.length) (h3:env.get 3=rp (H.length+1)) :
 X Tryz.prog Tryz.f39.ntmps drawB (IC.tl 9 i39) env (H.set j (pdO c r)++rL H.length nm pl vs ss G) (FinP H.length r39 (PdV c H j rulesV res)):=by
 subst hres
 simp -implicitDefEqProofs[IC.tl,i39,r39,h2,h3,rp,rL,pOut,zR]
 refine⟨_,_,PdV.got (x:=⟨nm,pl,vs,ss⟩) he rfl rfl rfl,?_⟩
 have hc1:closed (H.set j (pdO c r)):=closed_pd (c:=c) (a:=r.a) (v:=r.v) hcl
 have:=pcv_rules (nm:=nm) (pl:=pl) (vs:=vs) (ss:=ss) (z:=⟨[st (B nm),i64 pl,.own (H.length+2) 0 vs.length 3 vs.length,.own (H.length+3) 0 ss.length 12 ss.length],36,0,true⟩) (G:=G) hc1
 simpa[pOut]using this
theorem prules_t7 (hn:NumT c) (hN:TokN c) (h20:c.ts.length≤20000) (hj:j<H.length) (hcl:closed H) {d:Nat} (hF:PdC c 32 [] F d) (hkF:Kp c d F) (hst:Still F) (hnb:Nb c F) (hg:Gd c d r) (he:r.e=0) {G:List AO} {env:Env} {res:RulesP×Rd}
 (hres:(fun v:List VarP×Rd=>(fun s:List StageP×Rd=>((⟨nm,pl,v.1,s.1⟩,s.2):RulesP×Rd)) (stagesL c F (c.ts.length+1) [] v.2)) (varsL c c.ts.length [] r)=res)
 (h0:env.get 0=rp j) (h2:env.get 2=rp H.length) (h3:env.get 3=rp (H.length+1)) :
 X Tryz.prog Tryz.f39.ntmps drawB (IC.tl 7 i39) env (H.set j (pdO c r)++rL H.length nm pl [] [] G) (FinP H.length r39 (PdV c H j rulesV res)):=by
 have tail:∀ (vs:List VarP) (ss:List StageP) (r:Rd) (G:List AO) (env:Env),r.e=0->(⟨nm,pl,vs,ss⟩,r)=res->env.get 2=rp H.length->env.get 3=rp (H.length+1)->_:=fun vs ss r G env he hr h2 h3=>prules_t9 (c:=c) (r:=r) (G:=G) hj hcl he hr h2 h3
 rw[show IC.tl 7 i39=.seq (IC.nth 7 i39) (IC.tl 8 i39)from rfl,show IC.tl 8 i39=.seq (IC.nth 8 i39) (IC.tl 9 i39)from rfl]
 generalize IC.tl 9 i39=t9 at tail ⊢
 have bad:∀ rf:Rd,rf.e≠0->res.2=rf->∀ H',Keep H [j] H'->PdV c H j rulesV res (.pan (fltI rf.e rf.p)) H':=by
  intro rf hf hs H' hk
  rw[←hs]at hf ⊢
  exact PdV.pan hf hk
 dsimp only at hres
 generalize hv:varsL c c.ts.length [] r=v at hres
 simp -implicitDefEqProofs[IC.nth,i39]
 refine loop39_0 hn hN h20 hj (res:=v) (fun hv0 hgv env G h0 h2 h3 => ?_) (fun hv0 env H' hk => ?_) c.ts.length [] r G env (by omega) (by simp) hv hg he h0 h2 h3
 · simp -implicitDefEqProofs
   generalize hs:stagesL c F (c.ts.length+1) [] v.2=s at hres
   refine loop39_1 hn h20 hj hF hkF hst hnb (res:=s) (fun hs0 _ _ hgs env G h2 h3 => ?_) (fun hs0 env H' hk => ?_) (c.ts.length+1) [] v.2 G env (by omega) (by simp) hs hgv hv0 h0 h2 h3
   · simp -implicitDefEqProofs
     exact tail v.1 s.1 s.2 G env hs0 hres h2 h3
   · simp -implicitDefEqProofs
     exact⟨_,_,bad s.2 hs0 (by rw[←hres]) _ hk,cv_id⟩
 · simp -implicitDefEqProofs
   refine⟨_,_,bad v.2 hv0 ?_ _ hk,cv_id⟩
   rw[←hres,stages_bad hv0]
def rulesT (c:Cx) (F:Rd->Ex×Rd) (r:Rd):RulesP×Rd :=
 let w:=wordR c (t2 c [103,97,109,101] r)
 let n:=nmR c (t2 c [112,108,97,121,101,114,115] (t2 c [59] w.2))
 let v:=varsL c c.ts.length [] (t2 c [59] n.2)
 let s:=stagesL c F (c.ts.length+1) [] v.2
 (⟨w.1,n.1,v.1,s.1⟩,s.2)
set_option maxHeartbeats 2000000 in
theorem prules_t2 (hn:NumT c) (hN:TokN c) (h20:c.ts.length≤20000) (hj:j<H.length) (hcl:closed H) {d:Nat} (hF:PdC c 32 [] F d) (hkF:Kp c d F) (hst:Still F) (hnb:Nb c F) (hg:Gd c d r) (he:r.e=0) {env:Env} {res:RulesP×Rd}
 (hres:rulesT c F r=res) (h0:env.get 0=rp j) (h2:env.get 2=rp H.length) (h3:env.get 3=rp (H.length+1)) :
 X Tryz.prog Tryz.f39.ntmps drawB (IC.tl 2 i39) env (H.set j (pdO c r)++rL H.length [] 0 [] [] []) (FinP H.length r39 (PdV c H j rulesV res)):=by
 have hct:c.ts.length<4611686018427387904:=by omega
 have tail:∀ (nm:List UInt8) (pl:Int) (r:Rd) (G:List AO) (env:Env),Gd c d r->r.e=0->_->env.get 0=rp j->env.get 2=rp H.length->env.get 3=rp (H.length+1)->_:=fun nm pl r G env hg he hr h0 h2 h3=>prules_t7 (nm:=nm) (pl:=pl) (r:=r) (G:=G) (res:=res) hn hN h20 hj hcl hF hkF hst hnb hg he hr h0 h2 h3
 have bad:∀ rf:Rd,rf.e≠0->res.2=rf->∀ H',Keep H [j] H'->PdV c H j rulesV res (.pan (fltI rf.e rf.p)) H':=by
  intro rf hf hs H' hk
  rw[←hs]at hf ⊢
  exact PdV.pan hf hk
 rw[show IC.tl 2 i39=.seq (IC.nth 2 i39) (IC.tl 3 i39)from rfl,show IC.tl 3 i39=.seq (IC.nth 3 i39) (IC.tl 4 i39)from rfl,show IC.tl 4 i39=.seq (IC.nth 4 i39) (IC.tl 5 i39)from rfl,show IC.tl 5 i39=.seq (IC.nth 5 i39) (IC.tl 6 i39)from rfl,show IC.tl 6 i39=.seq (IC.nth 6 i39) (IC.tl 7 i39)from rfl]
 generalize IC.tl 7 i39=t7 at tail ⊢
 unfold rulesT at hres
 dsimp only at hres
 have hw:=want_p (H:=H) (j:=j) (r:=r) (L:=rL H.length [] 0 [] [] [⟨[st (B [103,97,109,101])],9,0,true⟩]) (q:=4) (n:=1) (T:=9) (ver:=0) (l:=[[103,97,109,101]]) hn hct hj (by simp[wds,rL]) rfl (by simp) (by intro s hs; simp at hs; subst hs; rfl) he hg.a
 have hg1:=(t2_keep (c:=c) (d:=d) [103,97,109,101] hg).1
 simp -implicitDefEqProofs[IC.nth,i39,h0,h2,h3,rp,rL,pOut]
 refine pd_call (by simpa[rp,rL,pOut]using hw) (fun he1 => ?_) (fun he1 H' hk => ?_)
 · rw[s1_set hj]
   simp only[wantR1]at he1 ⊢
   generalize t2 c [103,97,109,101] r=r1 at hg1 he1 hres ⊢
   have h88:=fun L=>ok88p (c:=c) (r:=r1) hj (by have:=hg1.a; omega) he1 L false
   simp only[wordF_off]at h88
   have hg2:=(word_keep (c:=c) (d:=d) r1 hg1).1
   simp -implicitDefEqProofs[h0,h2,h3,rp]
   generalize wordR c r1=w at hg2 h88 hres
   refine pd_call (by simpa[rp]using h88 _) (fun he2 => ?_) (fun he2 H' hk => ?_)
   · rw[s1_set hj]
     simp -implicitDefEqProofs[h0,h2,h3,rp]
     have hw:=want_p (H:=H) (j:=j) (r:=w.2) (L:=rL H.length w.1 0 [] [] [⟨[st (B [103,97,109,101])],9,0,true⟩,⟨[st (B [59]),st (B [112,108,97,121,101,114,115])],9,0,true⟩]) (q:=5) (n:=2) (T:=9) (ver:=0) (l:=[[59],[112,108,97,121,101,114,115]]) hn hct hj (by simp[wds,rL]) rfl (by simp) (by intro s hs; simp at hs; rcases hs with rfl | rfl<;>rfl) he2 hg2.a
     have hg3:=(t2_keep (c:=c) (d:=d) [112,108,97,121,101,114,115] (t2_keep (c:=c) (d:=d) [59] hg2).1).1
     refine pd_call (by simpa[rp,rL,pOut]using hw) (fun he3 => ?_) (fun he3 H' hk => ?_)
     · rw[s1_set hj]
       simp only[wantR2]at he3 ⊢
       generalize t2 c [112,108,97,121,101,114,115] (t2 c [59] w.2)=r3 at hg3 he3 hres ⊢
       have h89:=fun L=>ok89p (c:=c) (r:=r3) hj (by have:=hg3.a; omega) he3 L false
       simp only[numF_off]at h89
       have hg4:=(num_keep (c:=c) (d:=d) r3 hg3).1
       simp -implicitDefEqProofs[h0,h2,h3,rp]
       generalize nmR c r3=q at hg4 h89 hres
       refine pd_call (by simpa[rp]using h89 _) (fun he4 => ?_) (fun he4 H' hk => ?_)
       · rw[s1_set hj]
         simp -implicitDefEqProofs[h0,h2,h3,rp]
         have hw:=want_p (H:=H) (j:=j) (r:=q.2) (L:=rL H.length w.1 q.1 [] [] [⟨[st (B [103,97,109,101])],9,0,true⟩,⟨[st (B [59]),st (B [112,108,97,121,101,114,115])],9,0,true⟩,⟨[st (B [59])],9,0,true⟩]) (q:=6) (n:=1) (T:=9) (ver:=0) (l:=[[59]]) hn hct hj (by simp[wds,rL]) rfl (by simp) (by intro s hs; simp at hs; subst hs; rfl) he4 hg4.a
         have hg5:=(t2_keep (c:=c) (d:=d) [59] hg4).1
         refine pd_call (by simpa[rp,rL,pOut]using hw) (fun he5 => ?_) (fun he5 H' hk => ?_)
         · rw[s1_set hj]
           simp only[wantR1]at he5 ⊢
           simp -implicitDefEqProofs[h0,h2,h3,rp]
           refine Xc ?_ (tail w.1 q.1 (t2 c [59] q.2) [⟨[st (B [103,97,109,101])],9,0,true⟩,⟨[st (B [59]),st (B [112,108,97,121,101,114,115])],9,0,true⟩,⟨[st (B [59])],9,0,true⟩] _ hg5 he5 hres ?_ ?_ ?_)
           · simp[rL,pOut]
           all_goals simp[h0,h2,h3,rp]
         · simp -implicitDefEqProofs
           rw[wantR1]at he5
           refine⟨_,_,bad _ he5 ?_ _ hk.of_set,cv_id⟩
           rw[←hres]; simp only[vars_bad he5,stages_bad he5]
       · simp -implicitDefEqProofs
         refine⟨_,_,bad _ he4 ?_ _ hk.of_set,cv_id⟩
         rw[←hres]; simp only[t2_still _ he4,vars_bad he4,stages_bad he4]
     · simp -implicitDefEqProofs
       rw[wantR2]at he3
       refine⟨_,_,bad _ he3 ?_ _ hk.of_set,cv_id⟩
       rw[←hres]; simp only[num_still _ he3,t2_still _ he3,vars_bad he3,stages_bad he3]
   · simp -implicitDefEqProofs
     refine⟨_,_,bad _ he2 ?_ _ hk.of_set,cv_id⟩
     rw[←hres]; simp only[t2_still _ he2,num_still _ he2,vars_bad he2,stages_bad he2]
 · simp -implicitDefEqProofs
   rw[wantR1]at he1
   refine⟨_,_,bad _ he1 ?_ _ hk.of_set,cv_id⟩
   rw[←hres]; simp only[word_still _ he1,t2_still _ he1,num_still _ he1,vars_bad he1,stages_bad he1]
theorem ok39 (hn:NumT c) (hN:TokN c) (h20:c.ts.length≤20000) {d:Nat} (hF:PdC c 32 [] F d) (hkF:Kp c d F) (hst:Still F) (hnb:Nb c F) (ho:H[j]? = some (pdO c r)) (hg:Gd c d r) (he:r.e=0) :
 OkP Tryz.prog 39 [rp j] H (PdV c H j rulesV (rulesT c F r)):=by
 have hj:=getElem?_lt ho
 refine okP_WI hm Tryz.func39 c39 (by simp[rp,SV.under,hj]) fun hcl => ?_
 have tail:∀ env:Env,env.get 0=rp j->env.get 2=rp H.length->env.get 3=rp (H.length+1)->_:=fun env h0 h2 h3=>prules_t2 (r:=r) (res:=rulesT c F r) hn hN h20 hj hcl hF hkF hst hnb hg he rfl h0 h2 h3
 rw[show i39=.seq (IC.nth 0 i39) (.seq (IC.nth 1 i39) (IC.tl 2 i39))from rfl]
 generalize IC.tl 2 i39=t2' at tail ⊢
 refine WI.seq (draw_ok hm) ?_
 simp -implicitDefEqProofs[IC.nth,i39]
 refine WI.seq (draw_ok hm) ?_
 simp -implicitDefEqProofs[IC.nth,i39]
 refine WI.tell (Tell.own0 (j:=H.length+1) (p:=2) (o:=⟨[st (B []),i64 0,nl,nl],36,0,true⟩) (by simp) rfl rfl 75 3) ?_
 refine WI.tell (Tell.own0 (j:=H.length+1) (p:=3) (o:=⟨[st (B []),i64 0,.own (H.length+2) 0 0 3 0,nl],36,0,true⟩) (by simp) rfl rfl 78 12) ?_
 refine WI.cong (H':=H.set j (pdO c r)++rL H.length [] 0 [] [] []) ?_ ?_
 · rw[set_same ho]
   simp[rL,pOut,zR,varsO,stgsO,rws]
 · exact WI.of_X (draw_ok hm) (tail _ (by simp[rp]) (by simp[rp]) (by simp[rp]))
end
end Go.Proofs.YtmkdpmfhlfhjkaaGreatDoor
namespace Go.Proofs.YtmkdpmfhlfhjkaaGreatDoor
open Go.Ab
def ExsOk (l:List Ex):Prop:=l.length<2147483648∧∀ e∈l,e.sm
structure ActP.sm (a:ActP):Prop where
 wh:ExsOk a.wh
 len:a.sets.length<2147483648
 sets:∀ s∈a.sets,s.e.sm
structure StageP.sm (x:StageP):Prop where
 wt:ExsOk x.wt
 seen:x.seen.length<2147483648
 who:ExsOk x.who
 len:x.acts.length<2147483648
 acts:∀ a∈x.acts,a.sm
 pays:ExsOk x.pays
structure RulesP.sm (r:RulesP):Prop where
 vars:r.vars.length<2147483648
 len:r.stages.length<2147483648
 stages:∀ x∈r.stages,x.sm
end Go.Proofs.YtmkdpmfhlfhjkaaGreatDoor
namespace Go.Proofs.YtmkdpmfhlfhjkaaGreatDoor
open Go.Ab
section
variable {H:List AO}
theorem rules_und (n:Nat) (r:RulesP):SV.underL n r.c=true:=by
 simp[RulesP.c,SV.underL,SV.under,rws_under (VarP.und _),rws_under (StageP.und _)]
end
end Go.Proofs.YtmkdpmfhlfhjkaaGreatDoor
namespace Go.Proofs.YtmkdpmfhlfhjkaaGreatDoor
open Go.Ab
end Go.Proofs.YtmkdpmfhlfhjkaaGreatDoor
namespace Go.Proofs.YtmkdpmfhlfhjkaaGreatDoor
open Go.Ab
def rO (x:RulesP):AO:=⟨x.c,36,0,true⟩
section
variable {c:Cx} {F:Rd->Ex×Rd}
theorem stagesL_end {d:Nat} (hkF:Kp c d F) (hst:Still F):∀ (n:Nat) (l:List StageP) (r:Rd),c.ts.length<r.a+n->Gd c d r->(stagesL c F n l r).2.e=0->c.ts.length≤(stagesL c F n l r).2.a
 | 0,l,r,hn,hg,_=>by have:=hg.a; omega
 | n+1,l,r,hn,hg,he=>by
  rw[stagesL]at he ⊢
  by_cases hc:r.e=0∧(l=[]∨r.a<c.ts.length)
  · rw[if_pos hc]at he ⊢
    by_cases h1:(stageR c F (fullR c l r)).2.e=0
    · have h2:fullR c l r=r:=by
       rw[fullR_eq]at h1 ⊢
       split
       · rename_i h3
         rw[if_pos h3]at h1
         have hb:(failR c 12 r).e≠0:=by simp[failR,hc.1]
         rw[stage_still hst _ hb]at h1
         exact absurd h1 hb
       · rfl
      rw[h2]at h1 he ⊢
      have h3:=stageR_on (c:=c) hkF hg h1
      exact stagesL_end hkF hst n _ _ (by omega) (stageR_keep (c:=c) hkF r hg).1 he
    · rw[stages_bad h1]at he
      exact absurd he h1
  · rw[if_neg hc]at he ⊢
    rcases Nat.lt_or_ge r.a c.ts.length with h | h
    · exact absurd ⟨he,.inr h⟩ hc
    · exact h
theorem rulesT_end {d:Nat} (hkF:Kp c d F) (hst:Still F) {r:Rd} (hg:Gd c d r) (he:(rulesT c F r).2.e=0):¬ (rulesT c F r).2.a<c.ts.length:=by
 unfold rulesT at he ⊢
 dsimp only at he ⊢
 have g1:=(word_keep _ (t2_keep (c:=c) (d:=d) [103,97,109,101] hg).1).1
 have g2:=(t2_keep (c:=c) (d:=d) [112,108,97,121,101,114,115] (t2_keep (c:=c) (d:=d) [59] g1).1).1
 have g3:=(t2_keep (c:=c) (d:=d) [59] (num_keep _ g2).1).1
 have g4:=(varsL_keep (c:=c) (d:=d) c.ts.length [] _ g3).1
 exact Nat.not_lt.2 (stagesL_end hkF hst _ _ _ (by omega) g4 he)
theorem parseT_eq:parseT c F=if(rulesT c F ⟨0,0,0,0⟩).2.e≠0 then(zRules,(rulesT c F ⟨0,0,0,0⟩).2.e,(rulesT c F ⟨0,0,0,0⟩).2.p)else((rulesT c F ⟨0,0,0,0⟩).1,0,0):=rfl
end
section
variable {H:List AO}
theorem okD86n {f g:Nat} (hf:f<H.length) (hg:g<H.length):OkD Tryz.prog 86 [rp f,rp g] H none (fun H'=>H'=H):=by
 refine okD_rc hm Tryz.func86 c86 (by rfl) fun hcl => ?_
 simp -implicitDefEqProofs[i86s,i86,rp,rvD,SV.isIf,SV.ifNil]
 exact cv_id
theorem okD86e {f g:Nat} {c1 c2:List SV} (hf:H[f]? = some ⟨c1,36,0,true⟩) (hc1:c1.length=4) (hg:H[g]? = some ⟨c2,28,0,true⟩) (hc2:c2.length=2) (hne:f≠g) (e p:Int) :
 OkD Tryz.prog 86 [rp f,rp g] H (some (fltI e p)) (fun H'=>H'=(H.set f zR).set g ⟨[i64 e,i64 p],28,0,true⟩):=by
 have hj:=getElem?_lt hf
 have hjg:=getElem?_lt hg
 have e2:∀ (L:List AO) (h:AO->AO),Ab.setObj (H++L) f h=H.set f (h ⟨c1,36,0,true⟩)++L:=fun L h=>by
  rw[setObj_some (o:=⟨c1,36,0,true⟩) (by rw[List.getElem?_append_left hj]; exact hf),List.set_append_left _ _ hj]
 have hg':(H.set f zR)[g]? = some ⟨c2,28,0,true⟩:=by rw[List.getElem?_set_ne hne]; exact hg
 have e4:∀ (L:List AO) (h:AO->AO),Ab.setObj (H.set f zR++L) g h=(H.set f zR).set g (h ⟨c2,28,0,true⟩)++L:=fun L h=>by
  rw[setObj_some (o:=⟨c2,28,0,true⟩) (by rw[List.getElem?_append_left (by simpa using hjg)]; exact hg'),List.set_append_left _ _ (by simpa using hjg)]
 have e1:∀ L,objCells (H++L) f 0=c1:=fun L=>objCells_of (o:=⟨c1,36,0,true⟩) (by rw[List.getElem?_append_left hj]; exact hf) rfl
 have e3:∀ L,objCells (H.set f zR++L) g 0=c2:=fun L=>objCells_of (o:=⟨c2,28,0,true⟩) (by rw[List.getElem?_append_left (by simpa using hjg)]; exact hg') rfl
 have d1:List.drop 4 c1=[]:=List.drop_of_length_le (by omega)
 have d2:List.drop 2 c2=[]:=List.drop_of_length_le (by omega)
 simp only[zR]at e3 e4
 refine okD_rc hm Tryz.func86 c86 (by rfl) fun hcl => ?_
 simp -implicitDefEqProofs[i86s,i86,rp,rvD,SV.isIf,SV.ifNil,fltI]
 refine callq_go (fun _=>ok77 e p) ?_
 simp -implicitDefEqProofs[fltV,e1,e2,e3,e4,hc1,hc2,d1,d2,fltI,rvD]
 have hc1':closed (H.set f zR):=by
  have:=closed_set hcl f (o:=zR) (by simp[zR,SV.underL,SV.under])
  simpa using this
 have hc2':closed ((H.set f zR).set g ⟨[i64 e,i64 p],28,0,true⟩):=by
  have:=closed_set hc1' g (o:=⟨[i64 e,i64 p],28,0,true⟩) (by simp[SV.underL,SV.under])
  simpa using this
 refine⟨rfl,okC_go (by simpa[fltI,fltV]using ok77 e p),?_⟩
 exact cv_fz 2 hc2' (by simp) rfl
theorem cv_zeroR (hcl:closed H) (e p:Int) (L:List AO):Cv H.length (.tup [.agg zR.cells,fltV e p]) (H++L) (.tup [(rulesV zRules),fltV e p]) H:=by
 refine Cv.le (cv_fz (n0:=H.length) (r1:=.tup [.agg [st (B []),i64 0,nl,nl],.agg [i64 e,i64 p]]) (r:=.tup [.agg [st (B []),i64 0,nl,nl],.agg [i64 e,i64 p]]) 3 hcl rfl (by simp)) ?_
 exact zR_le e p
theorem fin38e {q:RulesP×Int×Int} (hcl:closed H) (hq:q.1=zRules) {env:Env} {H1:List AO} {c1 c2:List SV} (hf:H1[H.length]? = some ⟨c1,36,0,true⟩) (hc1:c1.length=4) (hg:H1[H.length+1]? = some ⟨c2,28,0,true⟩) (hc2:c2.length=2)
 (hp:∀ i,i<H.length->H1[i]? = H[i]?) (h4:env.get 4=rp H.length) (h5:env.get 5=rp (H.length+1)) :
 FinD Tryz.prog H.length r38 (fun o h=>o=.ret (.tup [rulesV q.1,fltV q.2.1 q.2.2])∧h=H) 86 [rp H.length,rp (H.length+1)] (.panic (fltI q.2.1 q.2.2)) env H1:=by
 refine⟨_,okD86e hf hc1 hg hc2 (by omega) _ _,?_⟩
 rintro H4 rfl
 have hlen:H.length+2≤H1.length:=by have:=getElem?_lt hg; omega
 obtain⟨L,hL⟩:∃ L,(H1.set H.length zR).set (H.length+1) ⟨[i64 q.2.1,i64 q.2.2],28,0,true⟩=H++zR::⟨[i64 q.2.1,i64 q.2.2],28,0,true⟩::L:=by
  refine⟨H1.drop (H.length+2),?_⟩
  apply List.ext_getElem?
  intro i
  rcases Nat.lt_trichotomy i H.length with h | h | h
  · rw[List.getElem?_set_ne (by omega),List.getElem?_set_ne (by omega),hp i h,List.getElem?_append_left h]
  · subst h
    rw[List.getElem?_set_ne (by omega),List.getElem?_set_self (by omega),List.getElem?_append_right (by omega)]
    simp
  · by_cases h2:i=H.length+1
    · subst h2
      rw[List.getElem?_set_self (by simp; omega),List.getElem?_append_right (by omega)]
      simp
    · rw[List.getElem?_set_ne (by omega),List.getElem?_set_ne (by omega),List.getElem?_append_right (by omega)]
      obtain⟨k,rfl⟩:∃ k,i=H.length+2+k:=⟨i-(H.length+2),by omega⟩
      have e:H.length+2+k-H.length=k+1+1:=by omega
      rw[e,List.getElem?_cons_succ,List.getElem?_cons_succ,List.getElem?_drop]
 rw[hL]
 have e1:objCells (H++zR::⟨[i64 q.2.1,i64 q.2.2],28,0,true⟩::L) H.length 0=zR.cells:=objCells_of (o:=zR) (by simp) rfl
 have e2:objCells (H++zR::⟨[i64 q.2.1,i64 q.2.2],28,0,true⟩::L) (H.length+1) 0=[i64 q.2.1,i64 q.2.2]:=objCells_of (o:=⟨[i64 q.2.1,i64 q.2.2],28,0,true⟩) (by simp) rfl
 refine⟨?_,_,H,⟨rfl,rfl⟩,?_⟩
 · intro s hs
   simp only[r38,List.mem_cons,List.not_mem_nil,or_false]at hs
   rcases hs with rfl | rfl
   · simp[RS.side,h4,rp,e1,zR]
   · simp[RS.side,h5,rp,e2]
 · have hr:resV env (H++zR::⟨[i64 q.2.1,i64 q.2.2],28,0,true⟩::L) r38=.tup [.agg zR.cells,fltV q.2.1 q.2.2]:=by
    simp[resV,r38,RS.ev,h4,h5,rp,e1,e2,zR,fltV]
   rw[hr,hq]
   exact cv_zeroR hcl _ _ _
theorem rc_len (x:RulesP):x.c.length=4:=rfl
theorem rc_drop (x:RulesP):List.drop 4 x.c=[]:=rfl
theorem rc_ok (x:RulesP):cellsOk x.c:=by
 intro s hs
 simp[RulesP.c]at hs
 rcases hs with rfl | rfl | rfl | rfl<;>rfl
theorem rc_take (x:RulesP):List.take 4 x.c=x.c:=rfl
theorem fin38r {x:RulesP} (hcl:closed H) {env:Env} {L:List AO} (h4:env.get 4=rp H.length) (h5:env.get 5=rp (H.length+1)) :
 FinD Tryz.prog H.length r38 (fun o h=>o=.ret (.tup [.agg x.c,.agg [i64 0,i64 0]])∧h=H) 86 [rp H.length,rp (H.length+1)] .ret env (H++rO x::⟨[i64 0,i64 0],28,0,true⟩::L):=by
 refine⟨_,okD86n (by simp) (by simp),?_⟩
 rintro H4 rfl
 have e1:objCells (H++rO x::⟨[i64 0,i64 0],28,0,true⟩::L) H.length 0=x.c:=objCells_of (o:=rO x) (by simp) rfl
 have e2:objCells (H++rO x::⟨[i64 0,i64 0],28,0,true⟩::L) (H.length+1) 0=[i64 0,i64 0]:=objCells_of (o:=⟨[i64 0,i64 0],28,0,true⟩) (by simp) rfl
 refine⟨?_,_,H,⟨rfl,rfl⟩,?_⟩
 · intro s hs
   simp only[r38,List.mem_cons,List.not_mem_nil,or_false]at hs
   rcases hs with rfl | rfl
   · simp[RS.side,h4,rp,e1,rc_len]
   · simp[RS.side,h5,rp,e2]
 · have hr:resV env (H++rO x::⟨[i64 0,i64 0],28,0,true⟩::L) r38=.tup [.agg x.c,.agg [i64 0,i64 0]]:=by
    simp[resV,r38,RS.ev,h4,h5,rp,e1,e2,rc_take]
   rw[hr]
   refine cv_fz 3 hcl rfl (fz_under ?_)
   simp[SV.under,SV.underL,rules_und]
theorem ok38 {l:List UInt8} (hl:l.length≤20000):Ok Tryz.prog 38 [st (B l),.fn (.func 39) [] []] H (.ret (.tup [rulesV (parseR l).1,fltV (parseR l).2.1 (parseR l).2.2])) H:=by
 refine OkP.toOk (okP_ds hm Tryz.func38 c38 (by rfl) fun hcl => ?_)
 have hT:=tokT l
 have hN:=tokN l
 have hlen:=scan_len l
 have h26:=fun H=>ok26 (H:=H) (l:=l) (by omega)
 have hex:parseR l=if(scanG l).2.1≠0 then(zRules,(scanG l).2)else parseT ⟨(scanG l).1,l.length⟩ (orT ⟨(scanG l).1,l.length⟩):=rfl
 rw[hex]
 generalize scanG l=s at hlen h26 hT hN ⊢
 obtain⟨ts,fe,fp⟩:=s
 simp only at hlen h26 hT hN ⊢
 simp -implicitDefEqProofs[XL,i38p,i38a0,i38a1,i38a2]
 refine call_go (h26 _) ?_
 simp -implicitDefEqProofs[fltV,tksV]
 by_cases hs:fe=0
 · subst hs
   simp -implicitDefEqProofs[i38s,i38f,XL,FinE,i38]
   have hlc:ts.length<4611686018427387904:=by omega
   have hg:Gd ⟨ts,l.length⟩ 40 ⟨0,0,0,0⟩:=⟨Nat.zero_le _,.inr rfl⟩
   have hor:PdC ⟨ts,l.length⟩ 32 [] (orT ⟨ts,l.length⟩) 40:=(lv_ok hT hlc 40 (by omega)).2.2
   have hkF:Kp ⟨ts,l.length⟩ 40 (orT ⟨ts,l.length⟩):=(lv_keep ⟨ts,l.length⟩ 40 (by omega)).2.2
   have hst:Still (orT ⟨ts,l.length⟩):=or_still _ _
   have hnb:Nb ⟨ts,l.length⟩ (orT ⟨ts,l.length⟩):=fun r he hb=>or_nb he hb 40
   refine⟨86,_,⟨rfl,rfl⟩,call_go ok78 ?_⟩
   simp -implicitDefEqProofs[lvlC]
   have hG:∀ L,(H++(zR::⟨[i64 0,i64 fp],28,0,true⟩::pdO ⟨ts,l.length⟩ ⟨0,0,0,0⟩::L))[H.length+2]? = some (pdO ⟨ts,l.length⟩ ⟨0,0,0,0⟩):=fun L=>by simp
   have hc:=ok39 (c:=⟨ts,l.length⟩) hT.num hN (show ts.length≤20000 by omega) hor hkF hst hnb (hG []) hg rfl
   have hend:=rulesT_end (c:=⟨ts,l.length⟩) hkF hst hg
   refine⟨⟨rfl,rfl,rfl,rfl,rfl⟩,call_goP (Pt:=PdV ⟨ts,l.length⟩ (H++[zR,⟨[i64 0,i64 fp],28,0,true⟩,pdO ⟨ts,l.length⟩ ⟨0,0,0,0⟩]) (H.length+2) rulesV (rulesT ⟨ts,l.length⟩ (orT ⟨ts,l.length⟩) ⟨0,0,0,0⟩)) (by simpa[rp,zR,pdO,pdC,tksV]using hc) ?_⟩
   intro o H' hp
   unfold PdV at hp
   rw[parseT_eq]
   generalize rulesT ⟨ts,l.length⟩ (orT ⟨ts,l.length⟩) ⟨0,0,0,0⟩=x at hp hend ⊢
   obtain⟨ex,r⟩:=x
   dsimp only at hp hend ⊢
   by_cases he:r.e=0
   · rw[if_pos he]at hp
     obtain⟨rfl,rfl⟩:=hp
     have hset:(H++[zR,⟨[i64 0,i64 fp],28,0,true⟩,pdO ⟨ts,l.length⟩ ⟨0,0,0,0⟩]).set (H.length+2) (pdO ⟨ts,l.length⟩ r)=H++[zR,⟨[i64 0,i64 fp],28,0,true⟩,pdO ⟨ts,l.length⟩ r]:=by
      rw[List.set_append_right _ _ (by omega)]; simp
     rw[hset]
     have hlt:=hend he
     rw[if_neg (by simp[he])]
     have hck:=eq_true (rc_ok ex)
     simp -implicitDefEqProofs[rulesV,rc_len,rc_take,rc_drop,hck,zR,pdO,pdC,tksV,hlt]
     exact fin38r hcl (by simp[rp]) (by simp[rp])
   · rw[if_neg he]at hp
     obtain⟨rfl,hk⟩:=hp
     rw[if_pos he]
     simp -implicitDefEqProofs
     have hk1:∀ i,i<H.length+2->H'[i]? = (H++[zR,⟨[i64 0,i64 fp],28,0,true⟩,pdO ⟨ts,l.length⟩ ⟨0,0,0,0⟩])[i]? := fun i hi=>hk.at_ i (by simp; omega) (by simp; omega)
     exact fin38e (q:=(zRules,r.e,r.p)) hcl rfl (c1:=zR.cells) (c2:=[i64 0,i64 fp]) (by rw[hk1 _ (by omega)]; simp[zR]) rfl (by rw[hk1 _ (by omega)]; simp) rfl (fun i hi=>by rw[hk1 i (by omega),List.getElem?_append_left hi]) (by simp[rp]) (by simp[rp])
 · simp -implicitDefEqProofs[hs,XL,FinE,r38]
   simp only[if_neg hs]
   exact⟨rfl,_,_,⟨rfl,rfl⟩,by simpa[zR,fltV]using cv_zeroR hcl fe fp _⟩
theorem ok14 {l:List UInt8} (hl:l.length≤20000):Ok Tryz.prog 14 [st (B l)] H (.ret (.tup [rulesV (parseR l).1,fltV (parseR l).2.1 (parseR l).2.2])) H:=by
 have h38:=fun H=>ok38 (H:=H) hl
 generalize parseR l=q at h38 ⊢
 refine ok_fn hm Tryz.func14 c14 (by simp) fun hcl => ?_
 simp -implicitDefEqProofs[i14,r14]
 refine call_go (h38 _) ?_
 have hck:=eq_true (rc_ok q.1)
 simp -implicitDefEqProofs[rulesV,fltV,rc_len,rc_take,rc_drop,hck]
 refine cv_fz 3 hcl rfl (fz_under ?_)
 simp[SV.under,SV.underL,rules_und]
end
end Go.Proofs.YtmkdpmfhlfhjkaaGreatDoor
namespace Go.Proofs.YtmkdpmfhlfhjkaaGreatDoor
open Go.Ab
theorem cAt_app {a b:List UInt8} {p:Nat}:cAt (a++b) (a.length+p)=cAt b p:=by
 unfold cAt
 rw[List.getD_eq_getElem?_getD,List.getD_eq_getElem?_getD,List.getElem?_append_right (by omega)]
 simp
theorem cAt_left {a b:List UInt8} {p:Nat} (h:p<a.length):cAt (a++b) p=cAt a p:=by
 unfold cAt
 rw[List.getD_eq_getElem?_getD,List.getD_eq_getElem?_getD,List.getElem?_append_left h]
theorem runN_app {a b:List UInt8} {cs:List Int}:∀ (n e:Nat),runN (a++b) cs n (a.length+e)=a.length+runN b cs n e
 | 0,e=>rfl
 | n+1,e=>by
  simp only[runN,cAt_app,List.length_append]
  by_cases h:e<b.length∧cAt b e∈cs
  · rw[if_pos ⟨by omega,h.2⟩,if_pos h,Nat.add_assoc]; exact runN_app n (e+1)
  · rw[if_neg (fun h2=>h ⟨by omega,h2.2⟩),if_neg h]
theorem runE_app {a b:List UInt8} {cs:List Int} {e:Nat}:runE (a++b) cs (a.length+e)=a.length+runE b cs e:=by
 unfold runE
 rw[show(a++b).length-(a.length+e)=b.length-e by simp; omega]
 exact runN_app _ _
theorem drop_app {a b:List UInt8} {e:Nat}:(a++b).drop (a.length+e)=b.drop e:=by
 rw[List.drop_append,List.drop_of_length_le (by omega)]
 simp
theorem cut_app {a b:List UInt8} {p q:Nat}:cut (a++b) (a.length+p) (a.length+q)=cut b p q:=by
 unfold cut
 rw[drop_app,show a.length+q-(a.length+p)=q-p by omega]
theorem getD_app {a b:List UInt8} {p:Nat}:(a++b).getD (a.length+p) 0=b.getD p 0:=by
 rw[List.getD_eq_getElem?_getD,List.getD_eq_getElem?_getD,List.getElem?_append_right (by omega)]
 simp
theorem signE_app {a b:List UInt8} {e:Nat}:signE (a++b) (a.length+e)=a.length+signE b e:=by
 unfold signE
 rw[drop_app,getD_app]
 split
 · omega
 · split<;>omega
theorem whE_app {a b tx:List UInt8} {k:Int} {p:Nat} (h:p=0->a=[]∨cAt a (a.length-1)≠3):whE (a++b) k tx (a.length+p)=whE b k tx p:=by
 unfold whE
 have e:(tx=[]∨k=1∧0<a.length+p∧cAt (a++b) (a.length+p-1)=3)↔(tx=[]∨k=1∧0<p∧cAt b (p-1)=3):=by
  by_cases hp:p=0
  · subst hp
    rcases h rfl with h1 | h1
    · subst h1; simp
    · by_cases ha:a.length=0
      · have:a=[]:=List.eq_nil_of_length_eq_zero ha
        subst this; simp
      · have e1:cAt (a++b) (a.length+0-1)=cAt a (a.length-1):=cAt_left (by omega)
        rw[e1]
        simp[h1]
  · have e1:a.length+p-1=a.length+(p-1):=by omega
    rw[e1,cAt_app]
    have:0<a.length+p↔0<p:=by omega
    rw[this]
 simp only[e]
def Tok.mv (t:Tok) (d:Nat):Tok:={ t with p:=d+t.p }
def Stp.mv (d:Nat):Stp->Stp
 | .skip q=>.skip (d+q)
 | .tok t q=>.tok (t.mv d) (d+q)
 | .flt e=>.flt e
theorem mkStp_app {a b:List UInt8} {k:Int} {p q:Nat} (h:p=0->a=[]∨cAt a (a.length-1)≠3):mkStp (a++b) (a.length+p) k (a.length+q)=(mkStp b p k q).mv a.length:=by
 unfold mkStp
 rw[cut_app,whE_app h]
 split<;>rfl
theorem stepT_app {a b:List UInt8} {p:Nat} (h:p=0->a=[]∨cAt a (a.length-1)≠3):stepT (a++b) (a.length+p)=(stepT b p).mv a.length:=by
 unfold stepT
 rw[cAt_app,runE_app,runE_app,signE_app,getD_app,drop_app,mkStp_app h,mkStp_app h,mkStp_app h,mkStp_app h]
 split
 · simp only[Stp.mv]; rw[Nat.add_assoc]
 · split
   · rfl
   · split
     · rfl
     · split
       · rfl
       · split
         · simp only[Stp.mv]; rw[Nat.add_assoc]
         · rfl
def Ev.mv (d:Nat):Ev->Ev
 | .tok t=>.tok (t.mv d)
 | .flt e p=>.flt e (d+p)
theorem evs_app {a b:List UInt8}:∀ (n p:Nat),(p=0->a=[]∨cAt a (a.length-1)≠3)->evs (a++b) n (a.length+p)=(evs b n p).map (Ev.mv a.length)
 | 0,p,_=>rfl
 | n+1,p,h=>by
  simp only[evs,List.length_append]
  by_cases hp:p<b.length
  · rw[if_pos (by omega),if_pos hp,stepT_app h]
    cases hs:stepT b p with
    | skip q =>
     simp only[Stp.mv]
     refine evs_app n q fun h0 => ?_
     have:p<q:=by
      unfold stepT at hs
      have key:∀ k q',mkStp b p k q'≠.skip q:=by intro k q' h; unfold mkStp at h; split at h<;>cases h
      split at hs
      · cases hs; omega
      · split at hs
        · exact absurd hs (key _ _)
        · split at hs
          · exact absurd hs (key _ _)
          · split at hs
            · exact absurd hs (key _ _)
            · split at hs
              · rename_i h35; cases hs; have:=comE_pos hp h35; omega
              · exact absurd hs (key _ _)
     omega
    | tok t q =>
     simp only[Stp.mv,List.map_cons,Ev.mv]
     rw[evs_app n q fun h0=>by have:=mkq hs hp; omega]
    | flt e=>rfl
  · rw[if_neg (by omega),if_neg hp]; rfl
theorem stepT_lt {l:List UInt8} {p q:Nat} (hp:p<l.length) (hs:stepT l p=.skip q):p<q∧q≤l.length:=by
 unfold stepT at hs
 have key:∀ k q',mkStp l p k q'≠.skip q:=by intro k q' h; unfold mkStp at h; split at h<;>cases h
 split at hs
 · cases hs; omega
 · split at hs
   · exact absurd hs (key _ _)
   · split at hs
     · exact absurd hs (key _ _)
     · split at hs
       · exact absurd hs (key _ _)
       · split at hs
         · rename_i h35; cases hs
           have h1:=comE_pos hp h35
           have h2:=comE_le (l.drop p)
           simp at h2; omega
         · exact absurd hs (key _ _)
theorem evs_fuel {l:List UInt8}:∀ (n m p:Nat),l.length≤p+n->l.length≤p+m->evs l n p=evs l m p
 | 0,0,p,_,_=>rfl
 | 0,m+1,p,h,_=>by simp only[evs]; rw[if_neg (by omega)]
 | n+1,0,p,_,h=>by simp only[evs]; rw[if_neg (by omega)]
 | n+1,m+1,p,h1,h2=>by
  simp only[evs]
  split
  · rename_i hp
    cases hs:stepT l p with
    | skip q=>have:=stepT_lt hp hs; exact evs_fuel n m q (by omega) (by omega)
    | tok t q=>have:=mkq hs hp; simp only; rw[evs_fuel n m q (by omega) (by omega)]
    | flt e=>rfl
  · rfl
def Wht (c:UInt8):Prop:=c=10∨c=32
section
variable {a b:List UInt8} {c:UInt8}
theorem cAt_mid (hc:Wht c):cAt (a++c::b) a.length=1:=by
 have h:cAt (a++c::b) (a.length+0)=cAt (c::b) 0:=cAt_app
 rw[Nat.add_zero]at h
 rw[h]
 rcases hc with rfl | rfl<;>rfl
theorem runN_left (hc:Wht c) {cs:List Int} (h1:(1:Int)∉cs):∀ (n m e:Nat),e≤a.length->a.length≤e+n->a.length<e+m->runN (a++c::b) cs m e=runN a cs n e
 | n,0,e,h,h2,h3=>by omega
 | 0,m+1,e,h,h2,h3=>by
  have e:e=a.length:=by omega
  subst e
  simp only[runN]
  rw[if_neg (fun h=>h1 (by rw[←cAt_mid (a:=a) (b:=b) hc]; exact h.2))]
 | n+1,m+1,e,h,h2,h3=>by
  simp only[runN]
  by_cases he:e<a.length
  · rw[cAt_left he]
    by_cases h4:cAt a e∈cs
    · rw[if_pos ⟨by simp; omega,h4⟩,if_pos ⟨he,h4⟩]
      exact runN_left hc h1 n m (e+1) (by omega) (by omega) (by omega)
    · rw[if_neg (fun h=>h4 h.2),if_neg (fun h=>h4 h.2)]
  · have e:e=a.length:=by omega
    subst e
    rw[if_neg (fun h=>h1 (by rw[←cAt_mid (a:=a) (b:=b) hc]; exact h.2)),if_neg (fun h=>he h.1)]
theorem runE_left (hc:Wht c) {cs:List Int} (h1:(1:Int)∉cs) {e:Nat} (h:e≤a.length):runE (a++c::b) cs e=runE a cs e :=
 runN_left hc h1 _ _ e h (by omega) (by simp; omega)
theorem drop_left {e:Nat} (h:e≤a.length):(a++c::b).drop e=a.drop e++c::b:=by
 rw[List.drop_append_of_le_length h]
theorem cut_left {p q:Nat} (hp:p≤a.length) (hq:q≤a.length):cut (a++c::b) p q=cut a p q:=by
 unfold cut
 rw[drop_left hp,List.take_append_of_le_length (by simp; omega)]
theorem dbl_left (hc:Wht c) {r:List UInt8} (h:r≠[]):isDbl (r++c::b)=isDbl r:=by
 unfold isDbl
 have h1:∀ x:UInt8,Wht c->x∈[61,46]->(x==c)=false:=by
  intro x hc hx
  simp at hx
  rcases hc with rfl | rfl<;>rcases hx with rfl | rfl<;>rfl
 match r,h with
 | [x],_ =>
  simp only[dbls,List.any_cons,List.any_nil,List.singleton_append,List.isPrefixOf,List.cons_append,List.nil_append]
  rw[h1 61 hc (by simp),h1 46 hc (by simp)]
  simp
 | x::y::r,_=>simp[dbls,List.isPrefixOf]
theorem getD_left {e:Nat} (h:e<a.length):(a++c::b).getD e 0=a.getD e 0:=by
 rw[List.getD_eq_getElem?_getD,List.getD_eq_getElem?_getD,List.getElem?_append_left h]
theorem signE_left (hc:Wht c) {e:Nat} (h:e<a.length):signE (a++c::b) e=signE a e:=by
 unfold signE
 rw[drop_left (by omega),getD_left h,dbl_left hc (by intro h2; have:=congrArg List.length h2; simp at this; omega)]
theorem whE_left {tx:List UInt8} {k:Int} {p:Nat} (h:p<a.length):whE (a++c::b) k tx p=whE a k tx p:=by
 unfold whE
 by_cases hp:p=0
 · subst hp; simp
 · rw[cAt_left (show p-1<a.length by omega)]
theorem mkStp_left {k:Int} {p q:Nat} (h:p<a.length) (hq:q≤a.length):mkStp (a++c::b) p k q=mkStp a p k q:=by
 unfold mkStp
 rw[cut_left (by omega) hq,whE_left h]
theorem comE_left:∀ {a b:List UInt8},comE (a++10::b)=comE a
 | [],b=>rfl
 | x::r,b=>by
  simp only[List.cons_append,comE]
  split
  · rfl
  · rw[comE_left]
theorem stepT_left (hc:Wht c) {p:Nat} (h:p<a.length) (hn:c=10∨a.getD p 0≠35):stepT (a++c::b) p=stepT a p:=by
 have r1:=runE_left (b:=b) hc (cs:=[2,3]) (by decide) (show p≤a.length by omega)
 have r2:=runE_left (b:=b) hc (cs:=[3]) (by decide) (show p≤a.length by omega)
 have r3:=signE_left (b:=b) hc h
 unfold stepT
 rw[cAt_left h,r1,r2,r3,getD_left h,drop_left (by omega),mkStp_left h (runE_len (by omega)),mkStp_left h (runE_len (by omega)),mkStp_left h (signE_rng h).2,mkStp_left h (by omega)]
 rcases hn with rfl | hn
 · rw[comE_left]
 · simp only[if_neg hn]
def bad:List Ev->Bool
 | []=>false
 | .tok _::r=>bad r
 | .flt _ _::_=>true
end
end Go.Proofs.YtmkdpmfhlfhjkaaGreatDoor
namespace Go.Proofs.YtmkdpmfhlfhjkaaGreatDoor
open Go.Ab
def frst:List Ev->Int×Int
 | []=>(0,0)
 | .tok _::r=>frst r
 | .flt e p::_=>(e,p)
theorem fltE_frst:∀ (es:List Ev) (i:Nat),i+(toks es).length≤5000->fltE i es=frst es
 | [],i,_=>rfl
 | .tok t::r,i,h=>by
  simp only[toks,List.length_cons]at h
  simp only[fltE,frst]
  rw[if_neg (by omega)]
  exact fltE_frst r (i+1) (by omega)
 | .flt e p::_,i,_=>rfl
theorem frst_good:∀ {es:List Ev},bad es=false->frst es=(0,0)
 | [],_=>rfl
 | .tok t::r,h=>frst_good (es:=r) h
 | .flt e p::_,h=>by simp[bad]at h
theorem frst_bad:∀ {es:List Ev},(∀ e p,Ev.flt e p∈es->e≠0)->bad es=true->(frst es).1≠0
 | [],_,h=>by simp[bad]at h
 | .tok t::r,hm,h=>frst_bad (es:=r) (fun e p h=>hm e p (List.mem_cons_of_mem _ h)) h
 | .flt e p::_,hm,_=>hm e p (by simp)
theorem scan_short2 {l:List UInt8} (h:l.length≤20000) (hl:(toks (evsT l)).length≤5000):scanG l=bif bad (evsT l)then([],frst (evsT l))else(toks (evsT l),0,0):=by
 have hf:=fltE_frst (evsT l) 0 (by omega)
 unfold scanG
 rw[if_neg (by omega),hf]
 cases hb:bad (evsT l)with
 | true =>
  have hne:(frst (evsT l)).1≠0:=frst_bad (fun e p h=>evs_flt l.length 0 h) hb
  rw[if_neg hne]; rfl
 | false =>
  rw[frst_good hb]; rfl
section
variable {a b:List UInt8}
theorem evs_white {c:UInt8} (hc:cls c.toNat=1) (m:Nat) (hm:b.length≤m):evs (a++c::b) (m+1) a.length=(evsT b).map (Ev.mv (a.length+1)):=by
 have h1:cAt (a++c::b) a.length=1:=by
  have h:cAt (a++c::b) (a.length+0)=cAt (c::b) 0:=cAt_app
  rw[Nat.add_zero]at h
  rw[h]; exact hc
 have hs:stepT (a++c::b) a.length=.skip (a.length+1):=by unfold stepT; rw[if_pos h1]
 have e1:evs (a++c::b) (m+1) a.length=evs (a++c::b) m (a.length+1):=by simp only[evs]; rw[if_pos (by simp),hs]
 have e2:=evs_app (a:=a++[c]) (b:=b) m 0 (fun _=>.inr (by
  have:cAt (a++[c]) ((a++[c]).length-1)=cAt [c] 0:=by
   have h:cAt (a++[c]) (a.length+0)=cAt [c] 0:=cAt_app
   rw[←h]; simp
  rw[this]
  have h3:cAt [c] 0=cls c.toNat:=rfl
  rw[h3,hc]; decide))
 have e3:(a++[c])++b=a++c::b:=by simp
 have e4:(a++[c]).length+0=a.length+1:=by simp
 rw[e3,e4]at e2
 rw[e1,e2,show(a++[c]).length=a.length+1 by simp]
 unfold evsT
 rw[evs_fuel m b.length 0 (by omega) (by omega)]
end
end Go.Proofs.YtmkdpmfhlfhjkaaGreatDoor
namespace Go.Proofs.YtmkdpmfhlfhjkaaGreatDoor
open Go.Ab
def decF:Nat->Nat->List UInt8
 | 0,n=>[UInt8.ofNat (48+n)]
 | k+1,n=>if 9<n then decF k (n / 10)++[UInt8.ofNat (48+n % 10)]else [UInt8.ofNat (48+n)]
def decN (n:Nat):List UInt8:=decF 18 n
def Ex.op:Ex->Int
 | .mk op _ _ _ _=>op
end Go.Proofs.YtmkdpmfhlfhjkaaGreatDoor
namespace Go.Proofs.YtmkdpmfhlfhjkaaGreatDoor
open Go.Ab
inductive TK where
 | wd (s:List UInt8)
 | sg (s:List UInt8)
 | nm (n:Nat)
inductive Pc where
 | b (c:UInt8)
 | t (k:TK)
def TK.tx:TK->List UInt8
 | .wd s=>s
 | .sg s=>s
 | .nm n=>decN n
def txt:List Pc->List UInt8
 | []=>[]
 | .b c::r=>c::txt r
 | .t k::r=>k.tx++txt r
def Fits (t:Tok):TK->Prop
 | .wd s=>t.k=1∧t.tx=s
 | .sg s=>t.k=3∧t.tx=s
 | .nm n=>t.k=2∧t.n=n
inductive All2:List Tok->List TK->Prop
 | nil:All2 [] []
 | cons {t:Tok} {k:TK} {ts:List Tok} {ks:List TK}:Fits t k->All2 ts ks->All2 (t::ts) (k::ks)
def isWd (s:List UInt8):Prop:=s≠[]∧cAt s 0=2∧(∀ i,i<s.length->cAt s i=2∨cAt s i=3)∧s.length≤40
def isSg (s:List UInt8):Prop:=(∃ c∈sgls,s=[c])∨s∈dbls
def TK.ok:TK->Prop
 | .wd s=>isWd s
 | .sg s=>isSg s
 | .nm n=>n≤1000000000
def TK.sep:TK->List UInt8->Prop
 | .sg s,r=>s.length=2∨(r.getD 0 0≠61∧r.getD 0 0≠46)
 | _,r=>cAt r 0≠2∧cAt r 0≠3
def good:List Pc->Prop
 | []=>True
 | .b c::r=>(c=32∨c=10)∧good r
 | .t k::r=>k.ok∧k.sep (txt r)∧good r
end Go.Proofs.YtmkdpmfhlfhjkaaGreatDoor
namespace Go.Proofs.YtmkdpmfhlfhjkaaGreatDoor
open Go.Ab
def Rem (c:Cx) (a:Nat) (L:List TK):Prop:=All2 (c.ts.drop a) L
theorem Rem.lt {c:Cx} {a:Nat} {k:TK} {L:List TK} (h:Rem c a (k::L)):∃ h:a<c.ts.length,Fits c.ts[a] k:=by
 unfold Rem at h
 by_cases ha:a<c.ts.length
 · rw[List.drop_eq_getElem_cons ha]at h
   cases h with
   | cons h1 h2=>exact⟨ha,h1⟩
 · rw[List.drop_of_length_le (by omega)]at h; cases h
theorem Rem.next {c:Cx} {a:Nat} {k:TK} {L:List TK} (h:Rem c a (k::L)):Rem c (a+1) L:=by
 obtain⟨ha,_⟩:=h.lt
 unfold Rem at h ⊢
 rw[List.drop_eq_getElem_cons ha]at h
 cases h with
 | cons h1 h2=>exact h2
theorem Rem.end {c:Cx} {a:Nat} (h:Rem c a []):c.ts.length≤a:=by
 by_cases ha:a<c.ts.length
 · unfold Rem at h
   rw[List.drop_eq_getElem_cons ha]at h
   cases h
 · omega
def pk (L:List TK) (s:List UInt8):Bool:=match L with
 | .wd w::_=>decide (w=s)
 | .sg w::_=>decide (w=s)
 | _=>false
def freQ (L:List TK):Bool:=match L with
 | .wd w::_ => !decide (w∈resv)
 | _=>false
def isn (L:List TK):Bool:=match L with
 | .nm _::_=>true
 | _=>false
structure Sta (c:Cx) (d:Nat) (r:Rd) (L:List TK):Prop where
 e:r.e=0
 rem:Rem c r.a L
 v:r.v+d=40
 d:d≤40
theorem Sta.peek {c:Cx} {d:Nat} {r:Rd} {L:List TK} (h:Sta c d r L) (s:List UInt8):peekR c s r=pk L s:=by
 unfold peekR tokB
 rw[h.e]
 cases L with
 | nil =>
  have:=h.rem.end
  rw[dif_neg (by omega)]; rfl
 | cons k L =>
  obtain⟨ha,hf⟩:=h.rem.lt
  rw[dif_pos ha]
  cases k with
  | wd w=>simp[pk,hf.1,hf.2]
  | sg w=>simp[pk,hf.1,hf.2]
  | nm n=>simp[pk,hf.1]
theorem Sta.free {c:Cx} {d:Nat} {r:Rd} {L:List TK} (h:Sta c d r L):freeR c r=freQ L:=by
 unfold freeR tokB
 rw[h.e]
 cases L with
 | nil =>
  have:=h.rem.end
  rw[dif_neg (by omega)]; rfl
 | cons k L =>
  obtain⟨ha,hf⟩:=h.rem.lt
  rw[dif_pos ha]
  cases k with
  | wd w=>simp[hf.1,hf.2,freQ]
  | sg w=>simp[hf.1,freQ]
  | nm n=>simp[hf.1,freQ]
theorem Sta.num {c:Cx} {d:Nat} {r:Rd} {L:List TK} (h:Sta c d r L):isNum c r=isn L:=by
 unfold isNum tokB
 rw[h.e]
 cases L with
 | nil =>
  have:=h.rem.end
  rw[dif_neg (by omega)]; rfl
 | cons k L =>
  obtain⟨ha,hf⟩:=h.rem.lt
  rw[dif_pos ha]
  cases k with
  | wd w=>simp[hf.1,isn]
  | sg w=>simp[hf.1,isn]
  | nm n=>simp[hf.1,isn]
theorem Sta.next {c:Cx} {d:Nat} {r:Rd} {k:TK} {L:List TK} (h:Sta c d r (k::L)):Sta c d (nextR r) L:=⟨h.e,h.rem.next,h.v,h.d⟩
theorem Sta.take {c:Cx} {d:Nat} {r:Rd} {k:TK} {L:List TK} {s:List UInt8} (h:Sta c d r (k::L)) (hk:pk (k::L) s=true):(takeR c s r).2=nextR r∧Sta c d (takeR c s r).2 L:=by
 have e:(takeR c s r).2=nextR r:=by unfold takeR; rw[h.peek,if_pos hk]
 exact⟨e,e ▸ h.next⟩
theorem Sta.word {c:Cx} {d:Nat} {r:Rd} {w:List UInt8} {L:List TK} (h:Sta c d r (.wd w::L)) (hw:w∉resv):wordR c r=(w,nextR r)∧Sta c d (nextR r) L:=by
 refine⟨?_,h.next⟩
 obtain⟨ha,hf⟩:=h.rem.lt
 unfold wordR
 rw[if_pos (by rw[h.free]; simpa[freQ]using hw),List.getD_eq_getElem?_getD,List.getElem?_eq_getElem ha]
 simp[hf.2]
theorem Sta.numb {c:Cx} {d:Nat} {r:Rd} {n:Nat} {L:List TK} (h:Sta c d r (.nm n::L)):nmR c r=((n:Int),nextR r)∧Sta c d (nextR r) L:=by
 refine⟨?_,h.next⟩
 obtain⟨ha,hf⟩:=h.rem.lt
 unfold nmR
 rw[if_pos (by rw[h.num]; rfl),List.getD_eq_getElem?_getD,List.getElem?_eq_getElem ha]
 simp[hf.2]
mutual
def Ex.er:Ex->Ex
 | .mk op n nm l _=>.mk op n nm (Ex.erL l) 0
def Ex.erL:List Ex->List Ex
 | []=>[]
 | e::r=>e.er::Ex.erL r
end
def Reads (c:Cx) (d:Nat) (F:Rd->Ex×Rd) (l:List TK) (e:Ex) (st:List TK->Prop):Prop :=
 ∀ r L,Sta c d r (l++L)->st L->(F r).2.e≠0∨(Sta c d (F r).2 L∧(F r).1.er=e.er)
def noOp (ops:List (List UInt8×Int)) (L:List TK):Prop:=∀ o∈ops,pk L o.1=false
theorem opAt_none {c:Cx} {ops:List (List UInt8×Int)} {r:Rd} (h:∀ o∈ops,peekR c o.1 r=false):opAt c ops r=none:=by
 unfold opAt
 rw[Option.map_eq_none_iff,List.find?_eq_none]
 intro o ho; rw[h o ho]; decide
theorem Sta.none {c:Cx} {d:Nat} {r:Rd} {L:List TK} {ops:List (List UInt8×Int)} (h:Sta c d r L) (hn:noOp ops L):opAt c ops r=none:=opAt_none fun o ho=>by rw[h.peek]; exact hn o ho
theorem Sta.some {c:Cx} {d:Nat} {r:Rd} {k:TK} {L:List TK} {ops:List (List UInt8×Int)} {s:List UInt8} {op:Int} (h:Sta c d r (k::L)) (hk:k=.sg s∨k=.wd s) (hf:(ops.find? fun o=>decide (s=o.1)).map (·.2)=.some op):opAt c ops r=.some op:=by
 unfold opAt
 have e:(fun o:List UInt8×Int=>peekR c o.1 r)=fun o=>decide (s=o.1):=by
  funext o
  rw[h.peek]
  rcases hk with rfl | rfl<;>rfl
 rw[e]; exact hf
theorem binL_stop {c:Cx} {ops:List (List UInt8×Int)} {f:Rd->Ex×Rd} {e:Ex} {r:Rd} (h:opAt c ops r=.none) (n:Nat):binL c ops f n e r=(e,r):=by
 cases n with
 | zero=>rfl
 | succ n=>rw[binL,h]
section
variable {c:Cx} {d:Nat} {F:Rd->Ex×Rd} {l la lb:List TK} {e a b:Ex} {st sa sb:List TK->Prop} {ops:List (List UInt8×Int)}
theorem Reads.pass (h:Reads c d F l e st):Reads c d (binF c ops F) l e (fun L=>st L∧noOp ops L):=by
 intro r L hs ⟨h1,h2⟩
 unfold binF
 rcases h r L hs h1 with hb | ⟨hg,he⟩
 · rw[binL_stop (opAt_bad hb _)]; exact .inl hb
 · rw[binL_stop (hg.none h2)]; exact .inr ⟨hg,he⟩
theorem Reads.op {k:TK} {s:List UInt8} {op:Int} (hst:Still F) (ha:Reads c d F la a sa) (hb:Reads c d F lb b sb) (hk:k=.sg s∨k=.wd s) (hf:(ops.find? fun o=>decide (s=o.1)).map (·.2)=.some op) (hs:∀ L,sa (k::L)) :
 Reads c d (binF c ops F) (la++k::lb) (.mk op 0 [] [a,b] 0) (fun L=>sb L∧noOp ops L):=by
 intro r L h ⟨h1,h2⟩
 unfold binF
 rw[List.append_assoc]at h
 rcases ha r _ h (hs _)with hb1 | ⟨hg,he⟩
 · rw[binL_stop (opAt_bad hb1 _)]; exact .inl hb1
 · have hpos:0<c.ts.length:=by obtain⟨hh,_⟩:=hg.rem.lt; omega
   obtain⟨n,hn⟩:∃ n,c.ts.length=n+1:=⟨c.ts.length-1,by omega⟩
   rw[hn,binL,hg.some hk hf]
   simp only
   rcases hb _ L hg.next h1 with hb2 | ⟨hg2,he2⟩
   · rw[binL_stop (opAt_bad hb2 _)]; exact .inl hb2
   · rw[binL_stop (hg2.none h2)]
     refine .inr ⟨hg2,?_⟩
     simp only[Ex.er,Ex.erL,he,he2]
end
end Go.Proofs.YtmkdpmfhlfhjkaaGreatDoor
namespace Go.Proofs.YtmkdpmfhlfhjkaaGreatDoor
open Go.Ab
section
variable {c:Cx} {d:Nat}
theorem open_succ {r:Rd} {L:List TK} {k:TK} {s:List UInt8} (h:Sta c (d+1) r (k::L)) (hk:pk (k::L) s=true):Sta c d (openR c s r).2 L:=by
 have hv:=h.v
 have hd:=h.d
 unfold openR
 rw[h.peek,if_neg (by rintro⟨_,h2⟩; omega)]
 have hw:IntKind.i64.wrap (r.v+1)=r.v+1:=wrap_id (by omega) (by omega)
 have hu:Sta c d (upR r) (k::L):=⟨h.e,h.rem,by show IntKind.i64.wrap (r.v+1)+(d:Int)=40; rw[hw]; omega,by omega⟩
 exact(hu.take hk).2
theorem down {r:Rd} {L:List TK} (h:Sta c d r L) (hd:d+1≤40):Sta c (d+1) (dnR r) L:=by
 have hv:=h.v
 have hw:IntKind.i64.wrap (r.v-1)=r.v-1:=wrap_id (by omega) (by omega)
 exact⟨h.e,h.rem,by show IntKind.i64.wrap (r.v-1)+((d+1:Nat):Int)=40; rw[hw]; omega,hd⟩
theorem dn_e (r:Rd):(dnR r).e=r.e:=rfl
variable {cmp ntP orP facP:Rd->Ex×Rd} {l la:List TK} {e a:Ex} {st sa:List TK->Prop}
theorem Reads.name {w:List UInt8} (hw:w∉resv):Reads c d (facG c orP facP) [.wd w] (.mk 2 0 w [] 0) (fun _=>True):=by
 intro r L hs _
 have hs:Sta c d r (.wd w::L):=hs
 unfold facG
 rw[if_neg (fun h=>h hs.e),if_pos (by rw[hs.free]; simpa[freQ]using hw)]
 obtain⟨h1,h2⟩:=hs.word hw
 rw[h1]
 exact .inr ⟨h2,by simp only[Ex.er,Ex.erL]⟩
theorem Reads.neg (ha:Reads c d facP la a sa):Reads c (d+1) (facG c orP facP) (.sg [45]::la) (.mk 3 0 [] [a] 0) sa:=by
 intro r L hs h1
 have ho:=open_succ (s:=[45]) hs rfl
 unfold facG
 have hp:peekR c [45] r=true:=by rw[hs.peek]; rfl
 have hf:freeR c r=false:=by rw[hs.free]; rfl
 rw[if_neg (fun h=>h hs.e),if_neg (by rw[hf]; decide),if_pos hp,if_neg (fun h=>h ho.e)]
 rcases ha _ L ho h1 with hb | ⟨hg,he⟩
 · exact .inl hb
 · exact .inr ⟨down hg hs.d,by simp only[Ex.er,Ex.erL,he]⟩
theorem Reads.num {n:Nat}:Reads c d (facG c orP facP) [.nm n] (.mk 1 n [] [] 0) (fun _=>True):=by
 intro r L hs _
 have hs:Sta c d r (.nm n::L):=hs
 have hfd:wrdO.find? (fun w=>peekR c w.1 r)=none:=by
  rw[List.find?_eq_none]
  intro w _; rw[hs.peek]; exact Bool.false_ne_true
 unfold facG
 have hp:peekR c [45] r=false:=by rw[hs.peek]; rfl
 have hp2:peekR c [40] r=false:=by rw[hs.peek]; rfl
 have hf:freeR c r=false:=by rw[hs.free]; rfl
 rw[if_neg (fun h2=>h2 hs.e),if_neg (by rw[hf]; decide),if_neg (by rw[hp]; decide),if_neg (by rw[hp2]; decide),hfd]
 obtain⟨h1,h2⟩:=hs.numb
 rw[h1]
 exact .inr ⟨h2,by simp only[Ex.er,Ex.erL]⟩
def cms:List (List TK)->List TK
 | []=>[]
 | x::r=>.sg [44]::(x++cms r)
theorem args_badQ {m:Nat}:∀ {acc:List Ex} {r:Rd},r.e≠0->(argsG c orP m acc r).2.e≠0:=by
 cases m with
 | zero=>intro acc r h; exact h
 | succ m =>
  intro acc r h
  have ht:(takeR c [44] r).2.e≠0:=by rw[take_still _ r h]; exact h
  rw[argsG,if_pos ht]
  exact ht
theorem args_read (hst:Still orP):∀ (xs:List (List TK)) (es:List Ex),xs.length=es.length->(∀ i (h1:i<xs.length) (h2:i<es.length),Reads c d orP xs[i] es[i] sa)->(∀ L,sa (.sg [41]::L))->(∀ L,sa (.sg [44]::L)) →
 ∀ (acc:List Ex) (r:Rd) (L:List TK),Sta c d r (cms xs++.sg [41]::L) →
  (argsG c orP xs.length acc r).2.e≠0∨∃ l,(argsG c orP xs.length acc r).1=some (acc++l)∧Sta c d (argsG c orP xs.length acc r).2 (.sg [41]::L)∧Ex.erL l=Ex.erL es
 | [],[],_,_,_,_,acc,r,L,h=>by
  refine .inr ⟨[],?_,h,rfl⟩
  simp[argsG]
 | x::xs,e::es,hl,hr,h1,h2,acc,r,L,h=>by
  obtain⟨ht1,ht⟩:=Sta.take (k:=.sg [44]) (s:=[44]) (L:=x++(cms xs++.sg [41]::L)) (by simpa[cms]using h) rfl
  rw[List.length_cons,argsG,if_neg (fun h=>h ht.e)]
  have hnx:∀ xs:List (List TK),∀ L,sa (cms xs++.sg [41]::L):=by
   intro xs L
   cases xs with
   | nil=>exact h1 _
   | cons y ys=>exact h2 _
  rcases hr 0 (by simp) (by simp) _ _ ht (hnx xs L)with hb | ⟨hg,he⟩
  · exact .inl (args_badQ hb)
  · rcases args_read hst xs es (by simpa using hl) (fun i a b=>hr (i+1) (by simpa using a) (by simpa using b)) h1 h2 (acc++[(orP (takeR c [44] r).2).1]) _ L hg with hb | ⟨l,g1,g2,g3⟩
    · exact .inl hb
    · refine .inr ⟨(orP (takeR c [44] r).2).1::l,?_,g2,?_⟩
      · rw[g1]; simp
      · simp only[Ex.erL,g3]
        rw[he]; rfl
theorem Reads.call {w:List UInt8} {op:Int} {x:List TK} {xs:List (List TK)} {es:List Ex} (hst:Still orP) (hw:(w,op,xs.length)∈wrdO) (ha:Reads c d orP x a sa) (hl:xs.length=es.length)
 (hr:∀ i (h1:i<xs.length) (h2:i<es.length),Reads c d orP xs[i] es[i] sa) (h1:∀ L,sa (.sg [41]::L)) (h2:∀ L,sa (.sg [44]::L)) :
 Reads c (d+1) (facG c orP facP) (.wd w::.sg [40]::(x++cms xs++[.sg [41]])) (.mk op 0 [] (a::es) 0) (fun _=>True):=by
 intro r L h _
 have h:Sta c (d+1) r (.wd w::.sg [40]::(x++(cms xs++.sg [41]::L))):=by simpa using h
 have hwr:w∈resv∧w≠[45]∧w≠[40]∧wrdO.find? (fun v=>decide (w=v.1))=some (w,op,xs.length):=by
  generalize xs.length=m at hw
  simp only[wrdO,List.mem_cons,List.not_mem_nil,or_false,Prod.mk.injEq]at hw
  rcases hw with ⟨rfl,rfl,rfl⟩ | ⟨rfl,rfl,rfl⟩ | ⟨rfl,rfl,rfl⟩<;>decide
 obtain⟨k1,k2,k3,k4⟩:=hwr
 have hfd:wrdO.find? (fun v=>peekR c v.1 r)=some (w,op,xs.length):=by
  have e:(fun v:List UInt8×Int×Nat=>peekR c v.1 r)=fun v=>decide (w=v.1):=by funext v; rw[h.peek]; rfl
  rw[e]; exact k4
 unfold facG
 rw[if_neg (fun h2=>h2 h.e),if_neg (by rw[h.free]; simpa[freQ]using k1),h.peek,h.peek,if_neg (by simp[pk,k2]),if_neg (by simp[pk,k3]),hfd]
 simp only
 unfold callG
 simp only
 have ht:=(h.take (s:=w) (by simp[pk])).2
 have ho:=open_succ (s:=[40]) ht rfl
 rw[if_neg (fun h=>h ho.e)]
 generalize (openR c [40] (takeR c w r).2).2=r2 at ho ⊢
 have hnx:sa (cms xs++.sg [41]::L):=by
  cases xs with
  | nil=>exact h1 _
  | cons y ys=>exact h2 _
 rcases ha r2 _ ho hnx with hb | ⟨hg,he⟩
 · have hb2:=args_badQ (c:=c) (orP:=orP) (m:=xs.length) (acc:=[(orP r2).1]) hb
   split
   · rename_i r3 hq; rw[hq]at hb2; exact .inl hb2
   · rename_i l r3 hq
     rw[hq]at hb2
     refine .inl ?_
     rw[take_still _ _ hb2,dn_e]; exact hb2
 · rcases args_read hst xs es hl hr h1 h2 [(orP r2).1] _ L hg with hb2 | ⟨l,g1,g2,g3⟩
   · split
     · rename_i r3 hq; rw[hq]at hb2; exact .inl hb2
     · rename_i l r3 hq
       rw[hq]at hb2
       refine .inl ?_
       rw[take_still _ _ hb2,dn_e]; exact hb2
   · split
     · rename_i r3 hq; rw[hq]at g1; cases g1
     · rename_i l' r3 hq
       rw[hq]at g1 g2
       obtain rfl:=Option.some.inj g1
       refine .inr ⟨down (g2.take rfl).2 h.d,?_⟩
       simp only[Ex.er,List.cons_append,List.nil_append,Ex.erL,he,g3]
end
end Go.Proofs.YtmkdpmfhlfhjkaaGreatDoor
namespace Go.Proofs.YtmkdpmfhlfhjkaaGreatDoor
open Go.Ab
section
variable {c:Cx}
theorem Reads.mono {d:Nat} {F:Rd->Ex×Rd} {l:List TK} {e:Ex} {st st':List TK->Prop} (h:Reads c d F l e st) (hs:∀ L,st' L->st L):Reads c d F l e st':=fun r L h1 h2=>h r L h1 (hs L h2)
theorem Reads.as {d:Nat} {F:Rd->Ex×Rd} {l:List TK} {e e':Ex} {st:List TK->Prop} (h:Reads c d F l e st) (he:e.er=e'.er):Reads c d F l e' st:=fun r L h1 h2=>by
 rw[←he]; exact h r L h1 h2
def l1 (c:Cx) (d:Nat):Rd->Ex×Rd:=binF c mulO (lv c d).fac
def l2 (c:Cx) (d:Nat):Rd->Ex×Rd:=binF c sumO (l1 c d)
def l3 (c:Cx) (d:Nat):Rd->Ex×Rd:=cmpF c (l2 c d)
section
variable {d:Nat} {l:List TK} {e:Ex}
abbrev any (_:List TK):Prop:=True
end
end
end Go.Proofs.YtmkdpmfhlfhjkaaGreatDoor
namespace Go.Proofs.YtmkdpmfhlfhjkaaGreatDoor
open Go.Ab
def SetP.er (s:SetP):SetP:=⟨s.nm,s.e.er,0⟩
def ActP.er (a:ActP):ActP:=⟨a.nm,Ex.erL a.wh,a.hid,a.sets.map SetP.er,a.go,0⟩
def StageP.er (x:StageP):StageP:=⟨x.k,x.lb,x.nm,x.lo,x.hi,Ex.erL x.wt,x.all,x.seen,Ex.erL x.who,x.acts.map ActP.er,Ex.erL x.pays,0⟩
def VarP.er (v:VarP):VarP:=⟨v.nm,v.n,0⟩
def RulesP.er (r:RulesP):RulesP:=⟨r.nm,r.pl,r.vars.map VarP.er,r.stages.map StageP.er⟩
section
variable {c:Cx}
theorem Sta.t2 {d:Nat} {r:Rd} {k:TK} {L:List TK} {s:List UInt8} (h:Sta c d r (k::L)) (hk:pk (k::L) s=true):Sta c d (t2 c s r) L:=(h.take hk).2
theorem orT_still:Still (orT c):=or_still c 40
theorem Sta.len {d:Nat} {r:Rd} {L:List TK} (h:Sta c d r L):L.length≤c.ts.length:=by
 have key:∀ {ts:List Tok} {ks:List TK},All2 ts ks->ts.length=ks.length:=by
  intro ts ks h
  induction h with
  | nil=>rfl
  | cons _ _ ih=>simp[ih]
 have:=key h.rem
 rw[List.length_drop]at this
 omega
end
end Go.Proofs.YtmkdpmfhlfhjkaaGreatDoor
namespace Go.Proofs.YtmkdpmfhlfhjkaaGreatDoor
open Go.Ab
theorem gPow : Tryz.prog.globalNamed "internal/strconv.uint64pow10" = some 3 := by kernel_rfl
theorem tab_of {S : St} (h : S.GL) : Lib.TabIs Tryz.prog S.w "internal/strconv.uint64pow10" .u64 Lib.pow10Tab := by
 obtain⟨h1,T,h2⟩:=h 3 _ rfl
 generalize hus:(Lib.pow10Tab.map fun z=>Value.int .u64 z)=us at h1 h2
 unfold Lib.TabIs World.var?
 rw[gPow,hus]
 simp only[Option.bind_some]
 unfold World.shape? at h2
 split at h2
 · rename_i c e f hh
   rw[hh]
   simp only[Option.some.injEq,Prod.mk.injEq]at h2 ⊢
   obtain⟨_,h2⟩:=h2
   apply Array.ext
   · simpa using h2
   · intro i hi1 hi2
     have h3:=h1.1 i us[i] (List.getElem?_eq_getElem (by simpa using hi2))
     have e:((⟨3,0,none⟩:Addr).add i)=⟨3,i,none⟩:=by unfold Addr.add; split<;>simp_all
     rw[e]at h3
     unfold World.cell? at h3
     simp only[hh]at h3
     simp at h3
     rw[Array.getElem?_eq_getElem hi1]at h3
     simpa using h3
 · cases h2
theorem VRs1 {S:St} {a:Value} {vs:List Value} (h:VRs S [.val a] vs):vs=[a]:=by
 obtain⟨h1,h2⟩:=h
 match vs,h1 with
 | [x],_ =>
  have hx:=h2 0 _ x rfl rfl
  cases hx; rfl
def itoB (n:Int):List UInt8:=Lib.itoa n
theorem itoB_dec {n:Int} (h:0≤n):itoB n=decI n:=by
 unfold itoB Lib.itoa decI
 rw[if_neg (by omega)]
theorem ok106 {H:List AO} (n:Int) (h0 : -9223372036854775808≤n) (h1:n≤9223372036854775807):Ok Tryz.prog 106 [i64 n] H (.ret (st (B (itoB n)))) H :=
 Ok.lib (enters_of Tryz.func106 (by kernel_rfl) rfl) fun S vs hS hv=>by
  rw[VRs1 hv]
  refine(Tryz.strconv_Itoa n h0 h1 S.w (tab_of hS.gl)).mono ?_
  rintro e w' ⟨rfl,k,os,rfl⟩
  exact⟨rfl,Lib.below_grow _ _ (Nat.le_refl _) _ _⟩
theorem numK {n:Int} (h0:0≤n) (h1:n≤9223372036854775807):NumK n:=fun H=>by
 rw[←itoB_dec h0]; exact ok106 n (by omega) h1
end Go.Proofs.YtmkdpmfhlfhjkaaGreatDoor
namespace Go.Proofs.YtmkdpmfhlfhjkaaGreatDoor
open Go.Ab
theorem row_get {α:Type} {c:α->List SV} {w:Nat} (hc:∀ a,(c a).length=w) {l:List α} {i:Nat} (h:i<l.length):((rws c l).drop (i*w)).take w=c l[i]:=by
 rw[rws_at hc h,List.take_left' (hc _)]
theorem Ex.okc:∀ e:Ex,cellsOk e.c
 | .mk op n nm l p=>by
  intro s hs; simp[Ex.c]at hs
  rcases hs with rfl | rfl | rfl | rfl | rfl<;>rfl
theorem SetP.ok (s:SetP):cellsOk s.c:=by
 intro x hx
 rw[SetP.c]at hx
 rcases List.mem_cons.1 hx with rfl | hx
 · rfl
 · rcases List.mem_append.1 hx with hx | hx
   · exact Ex.okc s.e x hx
   · rw[List.mem_singleton.1 hx]; rfl
@[simp] theorem SetP.okT (s:SetP):cellsOk s.c=True:=eq_true s.ok
@[simp] theorem SetP.take7 (s:SetP):List.take 7 s.c=s.c:=List.take_of_length_le (Nat.le_of_eq s.len)
section
variable {H:List AO}
theorem loop184 {l:List StageP} (hl:l.length<2147483648) {C:FuncId} {p:SV} (hf:∀ e∈l,Ok Tryz.prog C [.agg e.c,p] H (.ret (bl false)) H) {N:Nat} {K:XE->Env->List AO->Prop} (hexit:∀ env,K (.exit 0) env H) :
 ∀ (m i:Nat) (env:Env),i+m=l.length->env.get 0=.slc (rws StageP.c l) l.length->env.get 1=.fn (.func C) [] [p]->env.get 7=i64 l.length->env.get 8=i64 i->LI Tryz.prog N drawB l184_0 env H K:=by
 have hlen:=rws_len StageP.c_len l
 intro m
 induction m with
 | zero =>
  intro i env hi h0 h1 h7 h8
  refine li_go hm l184_0.eq_1 ?_
  have e:i=l.length:=by omega
  subst e
  simp -implicitDefEqProofs[h0,h1,h7,h8]
  exact hexit _
 | succ m ih =>
  intro i env hi h0 h1 h7 h8
  refine li_go hm l184_0.eq_1 ?_
  have hlt:i<l.length:=by omega
  have hlt':(i:Int)<l.length:=by omega
  have hg:=row_get (c:=StageP.c) StageP.c_len hlt
  have hfe:=hf _ (List.getElem_mem hlt)
  generalize l[i]=e at hg hfe

  simp -implicitDefEqProofs[h0,h1,h7,h8,hlt,hlt',hg,hlen]
  refine⟨by omega,?_⟩
  refine call_of (H':=H) (out:=.ret (bl false)) (by simpa using hfe) ?_
  simp -implicitDefEqProofs[h0,h1,h7,h8,hlt,hlt']
  refine ih (i+1) _ (by omega) ?_ ?_ ?_ ?_
  all_goals simp[h0,h1,h7,h8,wrap_suc (show i<9223372036854775807 by omega)]
theorem ok184 {l:List StageP} (hl:l.length<2147483648) {C:FuncId} {p:SV} (hp:p.under H.length=true) (hf:∀ e∈l,Ok Tryz.prog C [.agg e.c,p] H (.ret (bl false)) H) :
 Ok Tryz.prog 184 [.slc (rws StageP.c l) l.length,.fn (.func C) [] [p]] H (.ret (i64 (-1))) H:=by
 refine ok_fn hm Tryz.func184 c184 (by simp[SV.under,SV.underL,hp,rws_under (StageP.und _)]) fun hcl => ?_
 simp -implicitDefEqProofs[i184,r184]
 refine loop184 hl hf (fun env => ?_) l.length 0 _ (by omega) (by simp) (by simp) (by simp) (by simp)
 simp -implicitDefEqProofs
 exact cv_id
theorem ok152 {l:List StageP} (hl:l.length<2147483648) {C:FuncId} {p:SV} (hp:p.under H.length=true) (hf:∀ e∈l,Ok Tryz.prog C [.agg e.c,p] H (.ret (bl false)) H) :
 Ok Tryz.prog 152 [.slc (rws StageP.c l) l.length,.fn (.func C) [] [p]] H (.ret (bl false)) H:=by
 have h:=ok184 hl hp hf
 refine ok_fn hm Tryz.func152 c152 (by simp[SV.under,SV.underL,hp,rws_under (StageP.und _)]) fun hcl => ?_
 simp -implicitDefEqProofs[i152,r152]
 refine call_go h ?_
 simp -implicitDefEqProofs
 exact cv_id
theorem ok153 {x:StageP} {R:FuncId} {j T:Nat} (hj:H[j]? = some ⟨[.fn (.func R) [] []],T,0,true⟩) (hR:∀ L,Ok Tryz.prog R [.agg x.c] (H++L) (.ret (bl true)) (H++L)) :
 Ok Tryz.prog 153 [.agg x.c,rp j] H (.ret (bl false)) H:=by
 have hlt:=getElem?_lt hj
 have e1:∀ L,objCells (H++L) j 0=[.fn (.func R) [] []]:=fun L=>objCells_of (o:=⟨[.fn (.func R) [] []],T,0,true⟩) (by rw[List.getElem?_append_left hlt]; exact hj) rfl
 have e2:objCells H j 0=[.fn (.func R) [] []]:=objCells_of hj rfl
 refine ok_fn hm Tryz.func153 c153 (by simp[rp,SV.under,SV.underL,hlt,StageP.und]) fun hcl => ?_
 simp -implicitDefEqProofs[i153,r153,rp,e1,e2,StageP.c_len]

 refine call_go (hR _) ?_
 simp -implicitDefEqProofs
 exact cv_fz 3 hcl rfl (by simp)
theorem ok103 {l:List StageP} (hl:l.length<2147483648) {R:FuncId} (hR:∀ x∈l,∀ L,Ok Tryz.prog R [.agg x.c] (H++L) (.ret (bl true)) (H++L)) :
 Ok Tryz.prog 103 [.slc (rws StageP.c l) l.length,.fn (.func R) [] []] H (.ret (bl true)) H:=by
 have h:=ok152 hl (H:=H++[⟨[.fn (.func R) [] []],95,0,true⟩]) (C:=153) (p:=.ptr (.own H.length 0 0 0 0) 0) (by simp[SV.under]) fun x hx=>ok153 (R:=R) (j:=H.length) (T:=95) (by simp) fun L=>by rw[List.append_assoc]; exact hR x hx _
 refine ok_fn hm Tryz.func103 c103 (by simp[SV.under,SV.underL,rws_under (StageP.und _)]) fun hcl => ?_
 simp -implicitDefEqProofs[i103,r103]
 refine call_go h ?_
 simp -implicitDefEqProofs
 exact cv_fz 3 hcl rfl (by simp)
theorem loop205 {l:List ActP} (hl:l.length<2147483648) {C:FuncId} {p:SV} (hf:∀ e∈l,Ok Tryz.prog C [.agg e.c,p] H (.ret (bl false)) H) {N:Nat} {K:XE->Env->List AO->Prop} (hexit:∀ env,K (.exit 0) env H) :
 ∀ (m i:Nat) (env:Env),i+m=l.length->env.get 0=.slc (rws ActP.c l) l.length->env.get 1=.fn (.func C) [] [p]->env.get 7=i64 l.length->env.get 8=i64 i->LI Tryz.prog N drawB l205_0 env H K:=by
 have hlen:=rws_len ActP.c_len l
 intro m
 induction m with
 | zero =>
  intro i env hi h0 h1 h7 h8
  refine li_go hm l205_0.eq_1 ?_
  have e:i=l.length:=by omega
  subst e
  simp -implicitDefEqProofs[h0,h1,h7,h8]
  exact hexit _
 | succ m ih =>
  intro i env hi h0 h1 h7 h8
  refine li_go hm l205_0.eq_1 ?_
  have hlt:i<l.length:=by omega
  have hlt':(i:Int)<l.length:=by omega
  have hg:=row_get (c:=ActP.c) ActP.c_len hlt
  have hfe:=hf _ (List.getElem_mem hlt)
  generalize l[i]=e at hg hfe

  simp -implicitDefEqProofs[h0,h1,h7,h8,hlt,hlt',hg,hlen]
  refine⟨by omega,?_⟩
  refine call_of (H':=H) (out:=.ret (bl false)) (by simpa using hfe) ?_
  simp -implicitDefEqProofs[h0,h1,h7,h8,hlt,hlt']
  refine ih (i+1) _ (by omega) ?_ ?_ ?_ ?_
  all_goals simp[h0,h1,h7,h8,wrap_suc (show i<9223372036854775807 by omega)]
theorem ok205 {l:List ActP} (hl:l.length<2147483648) {C:FuncId} {p:SV} (hp:p.under H.length=true) (hf:∀ e∈l,Ok Tryz.prog C [.agg e.c,p] H (.ret (bl false)) H) :
 Ok Tryz.prog 205 [.slc (rws ActP.c l) l.length,.fn (.func C) [] [p]] H (.ret (i64 (-1))) H:=by
 refine ok_fn hm Tryz.func205 c205 (by simp[SV.under,SV.underL,hp,rws_under (ActP.und _)]) fun hcl => ?_
 simp -implicitDefEqProofs[i205,r205]
 refine loop205 hl hf (fun env => ?_) l.length 0 _ (by omega) (by simp) (by simp) (by simp) (by simp)
 simp -implicitDefEqProofs
 exact cv_id
theorem ok187 {l:List ActP} (hl:l.length<2147483648) {C:FuncId} {p:SV} (hp:p.under H.length=true) (hf:∀ e∈l,Ok Tryz.prog C [.agg e.c,p] H (.ret (bl false)) H) :
 Ok Tryz.prog 187 [.slc (rws ActP.c l) l.length,.fn (.func C) [] [p]] H (.ret (bl false)) H:=by
 have h:=ok205 hl hp hf
 refine ok_fn hm Tryz.func187 c187 (by simp[SV.under,SV.underL,hp,rws_under (ActP.und _)]) fun hcl => ?_
 simp -implicitDefEqProofs[i187,r187]
 refine call_go h ?_
 simp -implicitDefEqProofs
 exact cv_id
theorem ok188 {x:ActP} {R:FuncId} {j T:Nat} (hj:H[j]? = some ⟨[.fn (.func R) [] []],T,0,true⟩) (hR:∀ L,Ok Tryz.prog R [.agg x.c] (H++L) (.ret (bl true)) (H++L)) :
 Ok Tryz.prog 188 [.agg x.c,rp j] H (.ret (bl false)) H:=by
 have hlt:=getElem?_lt hj
 have e1:∀ L,objCells (H++L) j 0=[.fn (.func R) [] []]:=fun L=>objCells_of (o:=⟨[.fn (.func R) [] []],T,0,true⟩) (by rw[List.getElem?_append_left hlt]; exact hj) rfl
 have e2:objCells H j 0=[.fn (.func R) [] []]:=objCells_of hj rfl
 refine ok_fn hm Tryz.func188 c188 (by simp[rp,SV.under,SV.underL,hlt,ActP.und]) fun hcl => ?_
 simp -implicitDefEqProofs[i188,r188,rp,e1,e2,ActP.c_len]

 refine call_go (hR _) ?_
 simp -implicitDefEqProofs
 exact cv_fz 3 hcl rfl (by simp)
theorem ok155 {l:List ActP} (hl:l.length<2147483648) {R:FuncId} (hR:∀ x∈l,∀ L,Ok Tryz.prog R [.agg x.c] (H++L) (.ret (bl true)) (H++L)) :
 Ok Tryz.prog 155 [.slc (rws ActP.c l) l.length,.fn (.func R) [] []] H (.ret (bl true)) H:=by
 have h:=ok187 hl (H:=H++[⟨[.fn (.func R) [] []],148,0,true⟩]) (C:=188) (p:=.ptr (.own H.length 0 0 0 0) 0) (by simp[SV.under]) fun x hx=>ok188 (R:=R) (j:=H.length) (T:=148) (by simp) fun L=>by rw[List.append_assoc]; exact hR x hx _
 refine ok_fn hm Tryz.func155 c155 (by simp[SV.under,SV.underL,rws_under (ActP.und _)]) fun hcl => ?_
 simp -implicitDefEqProofs[i155,r155]
 refine call_go h ?_
 simp -implicitDefEqProofs
 exact cv_fz 3 hcl rfl (by simp)
theorem loop217 {l:List SetP} (hl:l.length<2147483648) {C:FuncId} {p:SV} (hf:∀ e∈l,Ok Tryz.prog C [.agg e.c,p] H (.ret (bl false)) H) {N:Nat} {K:XE->Env->List AO->Prop} (hexit:∀ env,K (.exit 0) env H) :
 ∀ (m i:Nat) (env:Env),i+m=l.length->env.get 0=.slc (rws SetP.c l) l.length->env.get 1=.fn (.func C) [] [p]->env.get 7=i64 l.length->env.get 8=i64 i->LI Tryz.prog N drawB l217_0 env H K:=by
 have hlen:=rws_len SetP.len l
 intro m
 induction m with
 | zero =>
  intro i env hi h0 h1 h7 h8
  refine li_go hm l217_0.eq_1 ?_
  have e:i=l.length:=by omega
  subst e
  simp -implicitDefEqProofs[h0,h1,h7,h8]
  exact hexit _
 | succ m ih =>
  intro i env hi h0 h1 h7 h8
  refine li_go hm l217_0.eq_1 ?_
  have hlt:i<l.length:=by omega
  have hlt':(i:Int)<l.length:=by omega
  have hg:=row_get (c:=SetP.c) SetP.len hlt
  have hfe:=hf _ (List.getElem_mem hlt)
  generalize l[i]=e at hg hfe

  simp -implicitDefEqProofs[h0,h1,h7,h8,hlt,hlt',hg,hlen]
  refine⟨by omega,?_⟩
  refine call_of (H':=H) (out:=.ret (bl false)) (by simpa using hfe) ?_
  simp -implicitDefEqProofs[h0,h1,h7,h8,hlt,hlt']
  refine ih (i+1) _ (by omega) ?_ ?_ ?_ ?_
  all_goals simp[h0,h1,h7,h8,wrap_suc (show i<9223372036854775807 by omega)]
theorem ok217 {l:List SetP} (hl:l.length<2147483648) {C:FuncId} {p:SV} (hp:p.under H.length=true) (hf:∀ e∈l,Ok Tryz.prog C [.agg e.c,p] H (.ret (bl false)) H) :
 Ok Tryz.prog 217 [.slc (rws SetP.c l) l.length,.fn (.func C) [] [p]] H (.ret (i64 (-1))) H:=by
 refine ok_fn hm Tryz.func217 c217 (by simp[SV.under,SV.underL,hp,rws_under (SetP.und _)]) fun hcl => ?_
 simp -implicitDefEqProofs[i217,r217]
 refine loop217 hl hf (fun env => ?_) l.length 0 _ (by omega) (by simp) (by simp) (by simp) (by simp)
 simp -implicitDefEqProofs
 exact cv_id
theorem ok206 {l:List SetP} (hl:l.length<2147483648) {C:FuncId} {p:SV} (hp:p.under H.length=true) (hf:∀ e∈l,Ok Tryz.prog C [.agg e.c,p] H (.ret (bl false)) H) :
 Ok Tryz.prog 206 [.slc (rws SetP.c l) l.length,.fn (.func C) [] [p]] H (.ret (bl false)) H:=by
 have h:=ok217 hl hp hf
 refine ok_fn hm Tryz.func206 c206 (by simp[SV.under,SV.underL,hp,rws_under (SetP.und _)]) fun hcl => ?_
 simp -implicitDefEqProofs[i206,r206]
 refine call_go h ?_
 simp -implicitDefEqProofs
 exact cv_id
theorem ok207 {x:SetP} {R:FuncId} {j T:Nat} (hj:H[j]? = some ⟨[.fn (.func R) [] []],T,0,true⟩) (hR:∀ L,Ok Tryz.prog R [.agg x.c] (H++L) (.ret (bl true)) (H++L)) :
 Ok Tryz.prog 207 [.agg x.c,rp j] H (.ret (bl false)) H:=by
 have hlt:=getElem?_lt hj
 have e1:∀ L,objCells (H++L) j 0=[.fn (.func R) [] []]:=fun L=>objCells_of (o:=⟨[.fn (.func R) [] []],T,0,true⟩) (by rw[List.getElem?_append_left hlt]; exact hj) rfl
 have e2:objCells H j 0=[.fn (.func R) [] []]:=objCells_of hj rfl
 refine ok_fn hm Tryz.func207 c207 (by simp[rp,SV.under,SV.underL,hlt,SetP.und]) fun hcl => ?_
 simp -implicitDefEqProofs[i207,r207,rp,e1,e2,SetP.len]

 refine call_go (hR _) ?_
 simp -implicitDefEqProofs
 exact cv_fz 3 hcl rfl (by simp)
theorem ok190 {l:List SetP} (hl:l.length<2147483648) {R:FuncId} (hR:∀ x∈l,∀ L,Ok Tryz.prog R [.agg x.c] (H++L) (.ret (bl true)) (H++L)) :
 Ok Tryz.prog 190 [.slc (rws SetP.c l) l.length,.fn (.func R) [] []] H (.ret (bl true)) H:=by
 have h:=ok206 hl (H:=H++[⟨[.fn (.func R) [] []],221,0,true⟩]) (C:=207) (p:=.ptr (.own H.length 0 0 0 0) 0) (by simp[SV.under]) fun x hx=>ok207 (R:=R) (j:=H.length) (T:=221) (by simp) fun L=>by rw[List.append_assoc]; exact hR x hx _
 refine ok_fn hm Tryz.func190 c190 (by simp[SV.under,SV.underL,rws_under (SetP.und _)]) fun hcl => ?_
 simp -implicitDefEqProofs[i190,r190]
 refine call_go h ?_
 simp -implicitDefEqProofs
 exact cv_fz 3 hcl rfl (by simp)
theorem loop216 {l:List Int} (hl:l.length<2147483648) {C:FuncId} {p:SV} (hf:∀ e∈l,Ok Tryz.prog C [i64 e,p] H (.ret (bl false)) H) {N:Nat} {K:XE->Env->List AO->Prop} (hexit:∀ env,K (.exit 0) env H) :
 ∀ (m i:Nat) (env:Env),i+m=l.length->env.get 0=.slc (ints l) l.length->env.get 1=.fn (.func C) [] [p]->env.get 7=i64 l.length->env.get 8=i64 i->LI Tryz.prog N drawB l216_0 env H K:=by
 have hlen:=ints_length l
 intro m
 induction m with
 | zero =>
  intro i env hi h0 h1 h7 h8
  refine li_go hm l216_0.eq_1 ?_
  have e:i=l.length:=by omega
  subst e
  simp -implicitDefEqProofs[h0,h1,h7,h8]
  exact hexit _
 | succ m ih =>
  intro i env hi h0 h1 h7 h8
  refine li_go hm l216_0.eq_1 ?_
  have hlt:i<l.length:=by omega
  have hlt':(i:Int)<l.length:=by omega
  have hg:=ints_G (l:=l) (k:=i) (by simpa using hlt)
  have hfe:=hf _ (List.getElem_mem hlt)
  generalize l[i]=e at hg hfe
  have hg:∀ h,(ints l)[i]'(h)=i64 e:=fun h=>hg
  simp -implicitDefEqProofs[h0,h1,h7,h8,hlt,hlt',hg,hlen]
  refine⟨by omega,?_⟩
  refine call_of (H':=H) (out:=.ret (bl false)) (by simpa using hfe) ?_
  simp -implicitDefEqProofs[h0,h1,h7,h8,hlt,hlt']
  refine ih (i+1) _ (by omega) ?_ ?_ ?_ ?_
  all_goals simp[h0,h1,h7,h8,wrap_suc (show i<9223372036854775807 by omega)]
theorem ok216 {l:List Int} (hl:l.length<2147483648) {C:FuncId} {p:SV} (hp:p.under H.length=true) (hf:∀ e∈l,Ok Tryz.prog C [i64 e,p] H (.ret (bl false)) H) :
 Ok Tryz.prog 216 [.slc (ints l) l.length,.fn (.func C) [] [p]] H (.ret (i64 (-1))) H:=by
 refine ok_fn hm Tryz.func216 c216 (by simp[SV.under,SV.underL,hp,ints_und]) fun hcl => ?_
 simp -implicitDefEqProofs[i216,r216]
 refine loop216 hl hf (fun env => ?_) l.length 0 _ (by omega) (by simp) (by simp) (by simp) (by simp)
 simp -implicitDefEqProofs
 exact cv_id
theorem ok203 {l:List Int} (hl:l.length<2147483648) {C:FuncId} {p:SV} (hp:p.under H.length=true) (hf:∀ e∈l,Ok Tryz.prog C [i64 e,p] H (.ret (bl false)) H) :
 Ok Tryz.prog 203 [.slc (ints l) l.length,.fn (.func C) [] [p]] H (.ret (bl false)) H:=by
 have h:=ok216 hl hp hf
 refine ok_fn hm Tryz.func203 c203 (by simp[SV.under,SV.underL,hp,ints_und]) fun hcl => ?_
 simp -implicitDefEqProofs[i203,r203]
 refine call_go h ?_
 simp -implicitDefEqProofs
 exact cv_id
theorem ok204 {x:Int} {R:FuncId} {j T:Nat} (hj:H[j]? = some ⟨[.fn (.func R) [] []],T,0,true⟩) (hR:∀ L,Ok Tryz.prog R [i64 x] (H++L) (.ret (bl true)) (H++L)) :
 Ok Tryz.prog 204 [i64 x,rp j] H (.ret (bl false)) H:=by
 have hlt:=getElem?_lt hj
 have e1:∀ L,objCells (H++L) j 0=[.fn (.func R) [] []]:=fun L=>objCells_of (o:=⟨[.fn (.func R) [] []],T,0,true⟩) (by rw[List.getElem?_append_left hlt]; exact hj) rfl
 have e2:objCells H j 0=[.fn (.func R) [] []]:=objCells_of hj rfl
 refine ok_fn hm Tryz.func204 c204 (by simp[rp,SV.under,SV.underL,hlt,SV.under]) fun hcl => ?_
 simp -implicitDefEqProofs[i204,r204,rp,e1,e2,SV.under]
 have hR:=hR []; simp only[List.append_nil]at hR
 refine call_go (hR) ?_
 simp -implicitDefEqProofs
 exact cv_id
theorem ok186 {l:List Int} (hl:l.length<2147483648) {R:FuncId} (hR:∀ x∈l,∀ L,Ok Tryz.prog R [i64 x] (H++L) (.ret (bl true)) (H++L)) :
 Ok Tryz.prog 186 [.slc (ints l) l.length,.fn (.func R) [] []] H (.ret (bl true)) H:=by
 have h:=ok203 hl (H:=H++[⟨[.fn (.func R) [] []],168,0,true⟩]) (C:=204) (p:=.ptr (.own H.length 0 0 0 0) 0) (by simp[SV.under]) fun x hx=>ok204 (R:=R) (j:=H.length) (T:=168) (by simp) fun L=>by rw[List.append_assoc]; exact hR x hx _
 refine ok_fn hm Tryz.func186 c186 (by simp[SV.under,SV.underL,ints_und]) fun hcl => ?_
 simp -implicitDefEqProofs[i186,r186]
 refine call_go h ?_
 simp -implicitDefEqProofs
 exact cv_fz 3 hcl rfl (by simp)
end
end Go.Proofs.YtmkdpmfhlfhjkaaGreatDoor
namespace Go.Proofs.YtmkdpmfhlfhjkaaGreatDoor
open Go.Ab
structure ExsR (l:List Ex):Prop where
 len:l.length≤100
 prp:∀ e∈l,e.prp
 cst:cstL l<1000000000
structure NamR (s:List UInt8):Prop where
 len:s.length<4611686018427387904
 ok:namB s=true
structure SetP.prp (s:SetP):Prop where
 nm:NamR s.nm
 e:ExsR [s.e]
structure ActP.prp (a:ActP):Prop where
 nm:NamR a.nm
 wh1:a.wh.length≤1
 wh:ExsR a.wh
 sets:∀ s∈a.sets,s.prp
 len:a.sets.length<2147483648
 go:a.go=[]∨NamR a.go
structure StageP.dl (x:StageP):Prop where
 nm:NamR x.nm
 lo:0≤x.lo∧x.lo≤1000000000
 hi:0≤x.hi∧x.hi≤1000000000
 seen:∀ n∈x.seen,0≤n∧n≤1000000000
 len:x.seen.length<2147483648
 wt1:x.wt.length≤1
 wt:ExsR x.wt
 all:x.all=true->x.seen=[]
section
variable {H:List AO}
theorem ok72r {l:List Ex} (h:ExsR l):Ok Tryz.prog 72 [exS l] H (.ret (bl true)) H:=ok72 h.len h.prp h.cst
theorem ok101r {s:List UInt8} (h:NamR s):Ok Tryz.prog 101 [st (B s)] H (.ret (bl true)) H:=by
 have:=ok101 (H:=H) h.len
 rwa [h.ok]at this
theorem ok102r {a n b:Int} (h1:a≤n) (h2:n≤b):Ok Tryz.prog 102 [i64 a,i64 n,i64 b] H (.ret (bl true)) H:=by
 have:=ok102 (H:=H) a n b
 rwa [decide_eq_true (And.intro h1 h2)]at this
theorem ok185 {n:Int} (h1:0≤n) (h2:n≤1000000000):Ok Tryz.prog 185 [i64 n] H (.ret (bl true)) H:=by
 have h:=fun H=>ok102r (H:=H) h1 h2
 refine ok_fn hm Tryz.func185 c185 (by simp) fun hcl => ?_
 simp -implicitDefEqProofs[i185,r185]
 refine call_go (h _) ?_
 simp -implicitDefEqProofs
 exact cv_id
def m189:IC :=
 (.seq
  (.reg [
    ⟨(some 1),none,.e (.box 91 (.t 0))⟩,
    ⟨(some 2),none,.p (.mov (.c (bl false)))⟩])
  (.seq
   (.reg [
     ⟨(some 3),none,.p (.fa 0 (.t 1))⟩,
     ⟨(some 4),none,.p (.ld1 (.t 3))⟩,
     ⟨(some 5),none,.e (.call (.c (.fn (.func 101) [] [])) [(.t 4)])⟩,
     ⟨(some 6),none,.p (.mov (.t 5))⟩,
     ⟨(some 7),(some (6,true)),.p (.fa 1 (.t 1))⟩,
     ⟨(some 8),(some (6,true)),.p (.ldn 5 (.t 7))⟩,
     ⟨(some 9),(some (6,true)),.e (.bsl 25 5 1 [i64 0,i64 0,st ⟨#[]⟩,.val (.slice none 0 0),i64 0] [(0,(.t 8))])⟩,
     ⟨(some 10),(some (6,true)),.e (.call (.c (.fn (.func 72) [] [])) [(.t 9)])⟩,
     ⟨(some 11),none,.p (.pick (.t 6) (.t 10) (.c (bl false)))⟩,
     ⟨(some 2),none,.p (.mov (.t 11))⟩])
   .ret))
theorem d189:chkF Tryz.prog drawB Tryz.f189 m189 r189=true:=by kernel_rfl
theorem ok189 {s:SetP} (hs:s.prp):Ok Tryz.prog 189 [.agg s.c] H (.ret (bl true)) H:=by
 have h1:=fun H=>ok101r (H:=H) hs.nm
 have h2:=fun H=>(ok72r (H:=H) hs.e).toP
 have hce:=Ex.c_len s.e
 have ht:∀ L,(s.e.c++L).take 5=s.e.c:=fun L=>List.take_left' hce
 have hcs:s.c=st (B s.nm)::(s.e.c++[i64 s.p]):=rfl
 have hok:=Ex.okc s.e
 have hex:exS [s.e]=.slc s.e.c 1:=by simp[exS,Ex.cL]
 have hcc:s.e.c.take 5=s.e.c:=by rw[←hce,List.take_length]
 rw[hex]at h2
 refine ok_fn hm Tryz.func189 d189 (by simp[SV.under,SetP.und]) fun hcl => ?_
 rw[hcs]at *
 generalize s.e.c=ec at *
 simp -implicitDefEqProofs[m189,r189]
 refine⟨hok,call_go (h1 _) ?_⟩
 simp -implicitDefEqProofs[ht,hok,hce]
 refine call_goP (OkP.give (H.length+1) 1 (o:=⟨ec,25,0,true⟩) (by simp) rfl (OkP.cast (by simp[hcc,hce]) rfl (h2 _))) ?_
 rintro out H' ⟨rfl,rfl⟩
 simp -implicitDefEqProofs
 exact cv_fz 3 hcl rfl (by simp)
theorem ok156 {a:ActP} (ha:a.prp):Ok Tryz.prog 156 [.agg a.c] H (.ret (bl true)) H:=by
 have h1:=fun H=>ok101r (H:=H) ha.nm
 have h2:=fun H=>ok72r (H:=H) ha.wh
 have h3:=fun H=>ok190 (H:=H) (R:=189) ha.len fun s hs L=>ok189 (ha.sets s hs)
 have hw:(a.wh.length:Int)≤1:=by have:=ha.wh1; omega
 have hw':=ha.wh1
 refine ok_fn hm Tryz.func156 c156 (by simp[SV.under,ActP.und]) fun hcl => ?_
 simp -implicitDefEqProofs[i156,r156,ActP.c]
 refine⟨rfl,call_go (h1 _) ?_⟩
 simp -implicitDefEqProofs[exS,hw,hw']
 refine callq_st (r:=bl true) (fun _=>by simpa[SV.strip,exS]using h2 _) ?_
 simp -implicitDefEqProofs[hw,hw']
 refine callq_st (r:=bl true) (fun _=>by simpa[SV.strip]using h3 _) ?_
 by_cases hg:a.go=[]
 · simp -implicitDefEqProofs[hg,hw,hw']
   refine callq_off _ _ _ _ ?_
   simp -implicitDefEqProofs
   exact cv_fz 3 hcl rfl (by simp)
 · have h4:=fun H=>ok101r (H:=H) (ha.go.resolve_left hg)
   have hgB:¬ B a.go=B []:=fun h=>hg (B_inj.1 h)
   simp -implicitDefEqProofs[hg,hgB,hw,hw']
   refine callq_st (r:=bl true) (fun _=>h4 _) ?_
   simp -implicitDefEqProofs
   exact cv_fz 3 hcl rfl (by simp)
theorem ok154 {x:StageP} (hx:x.dl):Ok Tryz.prog 154 [.agg x.c] H (.ret (bl true)) H:=by
 have h1:=fun H=>ok101r (H:=H) hx.nm
 have h2:=fun H=>ok185 (H:=H) hx.lo.1 hx.lo.2
 have h3:=fun H=>ok185 (H:=H) hx.hi.1 hx.hi.2
 have h4:=fun H=>ok186 (H:=H) (R:=185) hx.len fun n hn L=>ok185 (hx.seen n hn).1 (hx.seen n hn).2
 have h5:=fun H=>ok72r (H:=H) hx.wt
 have hw:(x.wt.length:Int)≤1:=by have:=hx.wt1; omega
 have hw':=hx.wt1
 have hall:=hx.all
 refine ok_fn hm Tryz.func154 c154 (by simp[SV.under,StageP.und]) fun hcl => ?_
 simp -implicitDefEqProofs[i154,r154,StageP.c]
 refine⟨⟨rfl,rfl,rfl⟩,call_go (h1 _) ?_⟩
 simp -implicitDefEqProofs
 refine call_gd (okCP_of (h2 _).toP) ?_
 rintro out H' ⟨rfl,rfl⟩
 simp -implicitDefEqProofs
 refine call_gd (okCP_of (h3 _).toP) ?_
 rintro out H' ⟨rfl,rfl⟩
 simp -implicitDefEqProofs
 refine callq_st (r:=bl true) (fun _=>by simpa[SV.strip]using h4 _) ?_
 simp -implicitDefEqProofs[exS,hw,hw']
 refine callq_st (r:=bl true) (fun _=>by simpa[SV.strip,exS]using h5 _) ?_
 generalize x.all=b at hall ⊢
 cases b with
 | false =>
  simp -implicitDefEqProofs[hw,hw']
  exact cv_fz 3 hcl rfl (by simp)
 | true =>
  simp -implicitDefEqProofs[hall rfl,hw,hw']
  exact cv_fz 3 hcl rfl (by simp)
end
end Go.Proofs.YtmkdpmfhlfhjkaaGreatDoor
namespace Go.Proofs.YtmkdpmfhlfhjkaaGreatDoor
open Go.Ab
structure StageP.tn (x:StageP):Prop where
 who1:x.who.length=1
 who:ExsR x.who
 acts0:0<x.acts.length
 acts:∀ a∈x.acts,a.prp
 len:x.acts.length<2147483648
 nm:x.nm=[]
 lo:x.lo=0
 hi:x.hi=0
 wt:x.wt=[]
 all:x.all=false
 seen:x.seen=[]
 pays:x.pays=[]
structure StageP.en (x:StageP):Prop where
 pays0:0<x.pays.length
 pays:ExsR x.pays
 nm:x.nm=[]
 lo:x.lo=0
 hi:x.hi=0
 wt:x.wt=[]
 all:x.all=false
 seen:x.seen=[]
 who:x.who=[]
 acts:x.acts=[]
structure StageP.prp (x:StageP):Prop where
 lb:x.lb=[]∨NamR x.lb
 kd:(x.k=1∧x.dl∧x.who=[]∧x.acts=[]∧x.pays=[])∨(x.k=2∧x.tn)∨(x.k=3∧x.en)
def StageP.at0 (x:StageP):StageP:={ x with p:=0 }
section
variable {H:List AO}
set_option maxRecDepth 8000 in
set_option maxHeartbeats 2000000 in
theorem ok157 (x:StageP):Ok Tryz.prog 157 [.agg x.c,.agg x.at0.c] H (.ret (bl true)) H:=by
 refine ok_fn hm Tryz.func157 c157 (by simp[SV.under,StageP.und]) fun hcl => ?_
 simp -implicitDefEqProofs[i157,r157,StageP.c,StageP.at0]
 refine⟨⟨rfl,rfl,rfl⟩,?_⟩
 simp -implicitDefEqProofs[exS]
 exact cv_fz 3 hcl rfl (by simp)
theorem head104 {x:StageP} (hlb:x.lb=[]∨NamR x.lb) {N:Nat} {K:XE->Env->List AO->Prop} {env:Env} (h1:env.get 1=rp H.length)
 (hK:∀ env,env.get 1=rp H.length->K .normal env (H++[⟨x.c,78,0,true⟩])):X Tryz.prog N drawB (IC.nth 1 i104) env (H++[⟨x.c,78,0,true⟩]) K:=by
 rcases hlb with h | h
 · obtain⟨k,lb,nm,lo,hi,wt,all,seen,who,acts,pays,p⟩:=x
   simp only at h; subst h
   simp -implicitDefEqProofs[IC.nth,i104,StageP.c,rp,h1]
   refine callq_off _ _ _ _ ?_
   simp -implicitDefEqProofs[h1,rp]
   exact hK _ (by simp[h1,rp])
 · have h101:=fun H=>ok101r (H:=H) h
   by_cases h0:x.lb=[]
   · clear h101 h
     obtain⟨k,lb,nm,lo,hi,wt,all,seen,who,acts,pays,p⟩:=x
     simp only at h0; subst h0
     simp -implicitDefEqProofs[IC.nth,i104,StageP.c,rp,h1]
     refine callq_off _ _ _ _ ?_
     simp -implicitDefEqProofs[h1,rp]
     exact hK _ (by simp[h1,rp])
   · have h0B:¬ B x.lb=B []:=fun h=>h0 (B_inj.1 h)
     simp -implicitDefEqProofs[IC.nth,i104,StageP.c,rp,h1,h0,h0B]
     refine callq_st (r:=bl true) (fun _=>h101 _) ?_
     simp -implicitDefEqProofs[h1,rp]
     exact hK _ (by simp[h1,rp])
set_option maxRecDepth 8000 in
set_option maxHeartbeats 4000000 in
theorem tail104e {x:StageP} (hk:x.k=3) (he:x.en) {N:Nat} {K:XE->Env->List AO->Prop} {env:Env} (h1:env.get 1=rp H.length)
 (hK:∀ env L,env.get 2=bl true->K .ret env (H++L)):X Tryz.prog N drawB (IC.tl 2 i104) env (H++[⟨x.c,78,0,true⟩]) K:=by
 have h157:=fun H=>ok157 (H:=H) x
 have h72:=fun H=>ok72r (H:=H) he.pays
 have hp:=he.pays0
 obtain⟨_,_,e1,e2,e3,e4,e5,e6,e7,e8⟩:=he
 obtain⟨k,lb,nm,lo,hi,wt,all,seen,who,acts,pays,p⟩:=x
 simp only at *
 subst hk e1 e2 e3 e4 e5 e6 e7 e8
 have hp':(0:Int)<pays.length:=by omega
 simp only[StageP.c,StageP.at0]at h157
 simp -implicitDefEqProofs[IC.tl,i104,StageP.c,rp,h1,exS,hp,hp']
 refine callq_st (r:=bl true) (fun _=>h72 _) ?_
 simp -implicitDefEqProofs[rp,h1,exS,hp,hp']
 refine callq_st (r:=bl true) (fun _=>(OkP.le ?_ (h157 _).toP).toOk) ?_
 · simp only[StageP.c,exS,Ex.cL,ints,rws,List.cons_append,List.nil_append,List.append_nil,List.map,SV.strip,List.length_cons,List.length_nil]
   repeat first
    | exact leL.nil
    | refine leL.cons ?_ ?_
    | exact SV.le.refl _
    | exact le_nil
    | refine le_slc ?_ _
    | refine le_agg ?_
 simp -implicitDefEqProofs[rp,h1,exS,hp,hp']
 exact hK _ _ (by simp)
set_option maxRecDepth 8000 in
set_option maxHeartbeats 4000000 in
theorem tail104d {x:StageP} (hk:x.k=1) (hd:x.dl) (e1:x.who=[]) (e2:x.acts=[]) (e3:x.pays=[]) {N:Nat} {K:XE->Env->List AO->Prop} {env:Env} (h1:env.get 1=rp H.length)
 (hK:∀ env L,env.get 2=bl true->K .ret env (H++L)):X Tryz.prog N drawB (IC.tl 2 i104) env (H++[⟨x.c,78,0,true⟩]) K:=by
 have h157:=fun H=>ok157 (H:=H) x
 have h154:=fun H=>ok154 (H:=H) hd
 clear hd
 obtain⟨k,lb,nm,lo,hi,wt,all,seen,who,acts,pays,p⟩:=x
 simp only at hk e1 e2 e3
 subst hk e1 e2 e3
 simp only[StageP.c,StageP.at0]at h157 h154
 simp -implicitDefEqProofs[IC.tl,i104,StageP.c,rp,h1,exS]
 refine call_go (h154 _) ?_
 simp -implicitDefEqProofs[rp,h1,exS]
 refine callq_st (r:=bl true) (fun _=>(OkP.le ?_ (h157 _).toP).toOk) ?_
 · simp only[StageP.c,exS,Ex.cL,ints,rws,List.cons_append,List.nil_append,List.append_nil,List.map,SV.strip,List.length_cons,List.length_nil]
   repeat first
    | exact leL.nil
    | refine leL.cons ?_ ?_
    | exact SV.le.refl _
    | exact le_nil
    | refine le_slc ?_ _
    | refine le_agg ?_
 simp -implicitDefEqProofs[rp,h1,exS]
 exact hK _ _ (by simp)
set_option maxRecDepth 8000 in
set_option maxHeartbeats 4000000 in
theorem tail104t {x:StageP} (hk:x.k=2) (he:x.tn) {N:Nat} {K:XE->Env->List AO->Prop} {env:Env} (h1:env.get 1=rp H.length)
 (hK:∀ env L,env.get 2=bl true->K .ret env (H++L)):X Tryz.prog N drawB (IC.tl 2 i104) env (H++[⟨x.c,78,0,true⟩]) K:=by
 have h157:=fun H=>ok157 (H:=H) x
 have h72:=fun H=>ok72r (H:=H) he.who
 have h155:=fun H=>ok155 (H:=H) (R:=156) he.len fun a ha L=>ok156 (he.acts a ha)
 have hp:=he.acts0
 obtain⟨hw1,_,_,_,_,e1,e2,e3,e4,e5,e6,e7⟩:=he
 obtain⟨k,lb,nm,lo,hi,wt,all,seen,who,acts,pays,p⟩:=x
 simp only at *
 subst hk e1 e2 e3 e4 e5 e6 e7
 have hp':(0:Int)<acts.length:=by omega
 have hw1':(who.length:Int)=1:=by omega
 simp only[StageP.c,StageP.at0]at h157
 simp -implicitDefEqProofs[IC.tl,i104,StageP.c,rp,h1,exS,hp,hp',hw1,hw1']
 simp only[exS,hw1]at h72 h157
 refine callq_st (r:=bl true) (fun _=>h72 _) ?_
 simp -implicitDefEqProofs[rp,h1,exS,hp,hp',hw1,hw1']
 refine callq_st (r:=bl true) (fun _=>h155 _) ?_
 simp -implicitDefEqProofs[rp,h1,exS,hp,hp',hw1,hw1']
 refine callq_st (r:=bl true) (fun _=>(OkP.le ?_ (h157 _).toP).toOk) ?_
 · simp only[StageP.c,exS,Ex.cL,ints,rws,List.cons_append,List.nil_append,List.append_nil,List.map,SV.strip,List.length_cons,List.length_nil]
   repeat first
    | exact leL.nil
    | refine leL.cons ?_ ?_
    | exact SV.le.refl _
    | exact le_nil
    | refine le_slc ?_ _
    | refine le_agg ?_
 simp -implicitDefEqProofs[rp,h1,exS]
 exact hK _ _ (by simp)
theorem ok104 {x:StageP} (hx:x.prp):Ok Tryz.prog 104 [.agg x.c] H (.ret (bl true)) H:=by
 refine ok_fn hm Tryz.func104 c104 (by simp[SV.under,StageP.und]) fun hcl => ?_
 rw[show i104=.seq (IC.nth 0 i104) (.seq (IC.nth 1 i104) (IC.tl 2 i104))from rfl]
 generalize ht:IC.tl 2 i104=t
 generalize ht1:IC.nth 1 i104=t1
 simp -implicitDefEqProofs[IC.nth,i104]
 subst ht1
 refine head104 hx.lb (by simp[rp]) fun env h1 => ?_
 subst ht
 rcases hx.kd with ⟨hk,hd,e1,e2,e3⟩ | ⟨hk,he⟩ | ⟨hk,he⟩
 · refine tail104d hk hd e1 e2 e3 h1 fun env L h2 => ?_
   simp -implicitDefEqProofs[r104,h2]
   exact cv_fz 3 hcl rfl (by simp)
 · refine tail104t hk he h1 fun env L h2 => ?_
   simp -implicitDefEqProofs[r104,h2]
   exact cv_fz 3 hcl rfl (by simp)
 · refine tail104e hk he h1 fun env L h2 => ?_
   simp -implicitDefEqProofs[r104,h2]
   exact cv_fz 3 hcl rfl (by simp)
structure VarP.prp (v:VarP):Prop where
 nm:NamR v.nm
 lo : -1000000000≤v.n
 hi:v.n≤1000000000
structure RulesP.prp (r:RulesP):Prop where
 nm:NamR r.nm
 pl:0≤r.pl∧r.pl≤1000000000
 vars:∀ v∈r.vars,v.prp
 vlen:r.vars.length<2147483648
 stages:∀ x∈r.stages,x.prp
 slen:r.stages.length<2147483648
 s0:0<r.stages.length
theorem VarP.len (v:VarP):v.c.length=3:=rfl
theorem loop49 {r:RulesP} (hr:r.prp) {N:Nat} {K:XE->Env->List AO->Prop} (hexit:∀ env G,env.get 1=rp H.length->K (.exit 0) env (H++(⟨r.c,36,0,true⟩::G))) :
 ∀ (m i:Nat) (G:List AO) (env:Env),i+m=r.vars.length->env.get 1=rp H.length->env.get 22=.slc (rws VarP.c r.vars) r.vars.length->env.get 23=i64 r.vars.length->env.get 24=i64 i →
  LI Tryz.prog N drawB l49_0 env (H++(⟨r.c,36,0,true⟩::G)) K:=by
 have hlen:=rws_len VarP.len r.vars
 have hb:=hr.vlen
 intro m
 induction m with
 | zero =>
  intro i G env hi h1 h22 h23 h24
  refine li_go hm l49_0.eq_1 ?_
  have e:i=r.vars.length:=by omega
  subst e
  simp -implicitDefEqProofs[h1,h22,h23,h24]
  exact hexit _ _ (by simp[h1])
 | succ m ih =>
  intro i G env hi h1 h22 h23 h24
  refine li_go hm l49_0.eq_1 ?_
  have hlt:i<r.vars.length:=by omega
  have hlt':(i:Int)<r.vars.length:=by omega
  have hg:=row_get (c:=VarP.c) VarP.len hlt
  have hv:=hr.vars _ (List.getElem_mem hlt)
  generalize r.vars[i]=v at hg hv
  have h101:=fun H=>ok101r (H:=H) hv.nm
  have h102:=fun H=>ok102r (H:=H) hv.lo hv.hi
  simp -implicitDefEqProofs[h1,h22,h23,h24,rp,VarP.c,hlt,hlt',hg,hlen]
  refine⟨by omega,call_go (h101 _) ?_⟩
  simp -implicitDefEqProofs[h1,h22,h23,h24,rp,hlt,hlt']
  refine callq_st (r:=bl true) (fun _=>h102 _) ?_
  simp -implicitDefEqProofs[h1,h22,h23,h24,rp,hlt,hlt']
  refine LI.cong (H':=H++(⟨r.c,36,0,true⟩::(G++[⟨v.c,75,0,true⟩]))) (by simp[VarP.c]) (ih (i+1) _ _ (by omega) ?_ ?_ ?_ ?_)
  all_goals simp[h1,h22,h23,h24,rp,VarP.c,wrap_suc (show i<9223372036854775807 by omega)]
theorem ok49 {r:RulesP} (hr:r.prp):Ok Tryz.prog 49 [.agg r.c] H (.ret (bl true)) H:=by
 have h101:=fun H=>ok101r (H:=H) hr.nm
 have h102:=fun H=>ok102r (H:=H) hr.pl.1 hr.pl.2
 have h103:=fun H=>ok103 (H:=H) (R:=104) hr.slen fun x hx L=>ok104 (hr.stages x hx)
 have h0:=hr.s0
 have h0':¬ r.stages.length=0:=by omega
 have h0'':¬ (r.stages.length:Int)=0:=by omega
 have hne:¬ r.stages=[]:=fun h=>by rw[h]at h0; simp at h0
 refine ok_fn hm Tryz.func49 c49 (by simp[SV.under,rules_und]) fun hcl => ?_
 simp -implicitDefEqProofs[i49,r49,RulesP.c]
 refine call_go (h101 _) ?_
 simp -implicitDefEqProofs
 refine callq_st (r:=bl true) (fun _=>h102 _) ?_
 simp -implicitDefEqProofs[h0,h0',h0'',hne]
 refine LI.cong (H':=H++(⟨r.c,36,0,true⟩::[])) (by simp[RulesP.c]) ?_
 refine loop49 hr (fun env G h1 => ?_) r.vars.length 0 [] _ (by omega) (by simp[rp]) (by simp) (by simp) (by simp)
 simp -implicitDefEqProofs[h1,rp,RulesP.c]
 refine call_go (h103 _) ?_
 simp -implicitDefEqProofs
 exact cv_fz 3 hcl rfl (by simp)
end
end Go.Proofs.YtmkdpmfhlfhjkaaGreatDoor
