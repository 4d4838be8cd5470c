/-
  Steps of the proof: contracts of functions and plain facts that the statement rests on.
-/
import Derived.Test.YtmkdpmfhlfhjkaaGreatDoorPart3
import Derived.Test.YtmkdpmfhlfhjkaaGreatDoorPWT
set_option linter.all false
namespace Go.Proofs.YtmkdpmfhlfhjkaaGreatDoor
open Go.Ab
theorem dealR_keep {c:Cx} {d:Nat} {orP:Rd->Ex×Rd} (hk:Kp c d orP) (x:StageP):Kp c d (dealR c orP x):=by
 intro r h
 unfold dealR
 dsimp only
 obtain⟨g1,i1⟩:=take_keep [100,101,97,108] r h
 obtain⟨g2,i2⟩:=word_keep _ g1
 obtain⟨g3,i3⟩:=t2_keep [105,110] g2
 obtain⟨g4,i4⟩:=num_keep _ g3
 obtain⟨g5,i5⟩:=t2_keep [46,46] g4
 obtain⟨g6,i6⟩:=num_keep _ g5
 obtain⟨g7,i7⟩:=optR_keep hk [119,101,105,103,104,116] _ g6
 obtain⟨g8,i8⟩:=seenR_keep _ g7
 obtain⟨g9,i9⟩:=t2_keep [59] g8
 exact⟨g9,by omega⟩
theorem turnR_keep {c:Cx} {d:Nat} {orP:Rd->Ex×Rd} (hk:Kp c d orP) (x:StageP):Kp c d (turnR c orP x):=by
 intro r h
 unfold turnR
 dsimp only
 obtain⟨g1,i1⟩:=take_keep [116,117,114,110] r h
 obtain⟨g2,i2⟩:=hk _ g1
 obtain⟨g3,i3⟩:=t2_keep [123] g2
 obtain⟨g4,i4⟩:=actR_keep hk _ g3
 obtain⟨g5,i5⟩:=actsL_keep hk c.ts.length [(actR c orP (t2 c [123] (orP (takeR c [116,117,114,110] r).2).2)).1] _ g4
 obtain⟨g6,i6⟩:=t2_keep [125] g5
 exact⟨g6,by omega⟩
theorem labelR_keep {c:Cx} {d:Nat}:Kp c d (labelR c):=by
 intro r h
 unfold labelR
 split
 · obtain⟨g1,i1⟩:=word_keep r h
   obtain⟨g2,i2⟩:=t2_keep [58] g1
   exact⟨g2,by simp only; omega⟩
 · exact⟨h,Nat.le_refl _⟩
theorem stageR_keep {c:Cx} {d:Nat} {orP:Rd->Ex×Rd} (hk:Kp c d orP):Kp c d (stageR c orP):=by
 intro r h
 unfold stageR
 dsimp only
 obtain⟨g1,i1⟩:=labelR_keep r h
 split
 · obtain⟨g2,i2⟩:=dealR_keep hk _ _ g1
   exact⟨g2,by omega⟩
 split
 · obtain⟨g2,i2⟩:=turnR_keep hk _ _ g1
   exact⟨g2,by omega⟩
 · obtain⟨g2,i2⟩:=take_keep [101,110,100] _ g1
   obtain⟨g3,i3⟩:=t2_keep [123] g2
   obtain⟨g4,i4⟩:=t2_keep [112,97,121] g3
   obtain⟨g5,i5⟩:=exprsR_keep hk _ g4
   obtain⟨g6,i6⟩:=t2_keep [59] g5
   obtain⟨g7,i7⟩:=t2_keep [125] g6
   exact⟨g7,by simp only; omega⟩
theorem stageR_on {c:Cx} {d:Nat} {orP:Rd->Ex×Rd} (hk:Kp c d orP) {r:Rd} (h:Gd c d r) (he:(stageR c orP r).2.e=0):r.a<(stageR c orP r).2.a:=by
 unfold stageR at he ⊢
 dsimp only at he ⊢
 obtain⟨g1,i1⟩:=labelR_keep r h
 split at he
 · rename_i hp
   rw[if_pos hp]
   unfold dealR at he ⊢
   dsimp only at he ⊢
   obtain⟨g1,i1⟩:=take_keep [100,101,97,108] _ g1
   obtain⟨g2,i2⟩:=word_keep _ g1
   obtain⟨g3,i3⟩:=t2_keep [105,110] g2
   obtain⟨g4,i4⟩:=num_keep _ g3
   obtain⟨g5,i5⟩:=t2_keep [46,46] g4
   obtain⟨g6,i6⟩:=num_keep _ g5
   obtain⟨g7,i7⟩:=optR_keep hk [119,101,105,103,104,116] _ g6
   obtain⟨g8,i8⟩:=seenR_keep _ g7
   have:=(t2_strict he).2
   omega
 · rename_i hp
   rw[if_neg hp]
   split at he
   · rename_i hp
     rw[if_pos hp]
     unfold turnR at he ⊢
     dsimp only at he ⊢
     obtain⟨g1,i1⟩:=take_keep [116,117,114,110] _ g1
     obtain⟨g2,i2⟩:=hk _ g1
     obtain⟨g3,i3⟩:=t2_keep [123] g2
     obtain⟨g4,i4⟩:=actR_keep hk _ g3
     obtain⟨g5,i5⟩:=actsL_keep hk c.ts.length [(actR c orP (t2 c [123] (orP (takeR c [116,117,114,110] (labelR c r).2).2).2)).1] _ g4
     have:=(t2_strict he).2
     omega
   · rename_i hp
     rw[if_neg hp]
     dsimp only at he ⊢
     obtain⟨g2,i2⟩:=take_keep [101,110,100] _ g1
     obtain⟨g3,i3⟩:=t2_keep [123] g2
     obtain⟨g4,i4⟩:=t2_keep [112,97,121] g3
     obtain⟨g5,i5⟩:=exprsR_keep hk _ g4
     obtain⟨g6,i6⟩:=t2_keep [59] g5
     have:=(t2_strict he).2
     omega
theorem StageP.c_len (x:StageP):x.c.length=12:=rfl
theorem StageP.und (n:Nat) (x:StageP):SV.underL n x.c=true:=by
 simp[StageP.c,exS,SV.underL,SV.under,Ex.undL,rws_under (ActP.und n),ints_und]
@[simp] theorem StageP.fzm (n:Nat) (ks:List Nat) (L:List AO) (d:Nat) (x:StageP):x.c.map (SV.fz n ks L (d+1))=x.c:=map_fz_under _ _ _ _ (StageP.und _ x)
theorem StageP.ok (x:StageP):cellsOk x.c:=by
 intro s hs
 simp[StageP.c]at hs
 rcases hs with rfl | rfl | rfl | rfl | rfl | rfl | rfl | rfl | rfl | rfl | rfl | rfl<;>rfl
@[simp] theorem StageP.okT (x:StageP):cellsOk x.c=True:=eq_true x.ok
@[simp] theorem StageP.take12 (x:StageP):List.take 12 x.c=x.c:=rfl
@[simp] theorem StageP.len12 (x:StageP):x.c.length=12:=rfl
def lbO (lb:List UInt8):AO:=⟨[i64 0,st (B lb),st (B []),i64 0,i64 0,nl,bl false,nl,nl,nl,nl,i64 0],78,0,true⟩
section
variable {H:List AO} {c:Cx} {r:Rd} {j:Nat} {G:List AO} {lb:List UInt8}
theorem stage_t3 (h20:c.ts.length≤20000) (hj:j<H.length) (hcl:closed (H.set j (rdO c r))) {d:Nat} {orP:Rd->Ex×Rd} (h1:RdC c 34 orP d) (hk:Kp c d orP) (hg:Gd c d r) {env:Env} {res:StageP×Rd}
 (hres:(if peekR c [100,101,97,108] r=true then dealR c orP { zStage with lb:=lb } r
 else if peekR c [116,117,114,110] r=true then turnR c orP { zStage with lb:=lb } r
 else({ zStage with lb:=lb,k:=3,p:=(takeR c [101,110,100] r).1,pays:=(exprsR c orP (t2 c [112,97,121] (t2 c [123] (takeR c [101,110,100] r).2))).1 },t2 c [125] (t2 c [59] (exprsR c orP (t2 c [112,97,121] (t2 c [123] (takeR c [101,110,100] r).2))).2)))=res)
  (h0:env.get 0=rp j) (h2:env.get 2=.ptr (.own H.length 0 0 0 0) 0) (h3:env.get 3=.ptr (.own (H.length+1) 0 0 0 0) 0) :
  X Tryz.prog Tryz.f46.ntmps drawB (IC.tl 3 i46) env (H.set j (rdO c r)++[zS,lbO lb])
   (Fin H.length r46 (.ret (stageV res.1)) (H.set j (rdO c res.2))):=by
 have hl:c.ts.length<4611686018427387904:=by omega
 simp -implicitDefEqProofs[IC.tl,i46,r46,h0,h2,h3]
 refine call_go (ok43a hj r _ [100,101,97,108]) ?_
 by_cases hp:peekR c [100,101,97,108] r=true
 · rw[if_pos hp]at hres
   simp -implicitDefEqProofs[h0,h2,h3,hp,lbO]
   refine call_go (RdA.app (ok96 h20 h1 hk lb) hj hg _) ?_
   rw[hres]
   simp -implicitDefEqProofs[h0,h2,h3,stageV,zS]
   exact cv_fz 2 (closed_rd hcl) (by simp) (by simp)
 · rw[if_neg hp]at hres
   rw[Bool.not_eq_true]at hp
   simp -implicitDefEqProofs[h0,h2,h3,hp]
   refine call_go (ok43a hj r _ [116,117,114,110]) ?_
   by_cases hp2:peekR c [116,117,114,110] r=true
   · rw[if_pos hp2]at hres
     simp -implicitDefEqProofs[h0,h2,h3,hp2,lbO]
     refine call_go (RdA.app (ok97 h20 h1 hk lb) hj hg _) ?_
     rw[hres]
     simp -implicitDefEqProofs[h0,h2,h3,stageV,zS]
     exact cv_fz 2 (closed_rd hcl) (by simp) (by simp)
   · rw[if_neg hp2]at hres
     rw[Bool.not_eq_true]at hp2
     simp -implicitDefEqProofs[h0,h2,h3,hp2,lbO]
     refine call_go (ok40a hl hj r _ [101,110,100]) ?_
     have g1:=(take_keep (c:=c) (d:=d) [101,110,100] r hg).1
     generalize takeR c [101,110,100] r=t at hres g1 ⊢
     simp -implicitDefEqProofs[h0,h2,h3]
     refine call_go (ok40a hl hj _ _ [123]) ?_
     have g2:=(t2_keep (c:=c) (d:=d) [123] g1).1
     rw[show(takeR c [123] t.2).2=t2 c [123] t.2 from rfl]
     generalize t2 c [123] t.2=r2 at hres g2 ⊢
     simp -implicitDefEqProofs[h0,h2,h3]
     refine call_go (ok40a hl hj _ _ [112,97,121]) ?_
     have g3:=(t2_keep (c:=c) (d:=d) [112,97,121] g2).1
     rw[show(takeR c [112,97,121] r2).2=t2 c [112,97,121] r2 from rfl]
     generalize t2 c [112,97,121] r2=r3 at hres g3 ⊢
     simp -implicitDefEqProofs[h0,h2,h3]
     refine call_go (RdA.app (ok98 h20 h1 hk) hj g3 _) ?_
     generalize exprsR c orP r3=x at hres ⊢
     simp -implicitDefEqProofs[h0,h2,h3,exS]
     refine call_go (ok40a hl hj _ _ [59]) ?_
     rw[show(takeR c [59] x.2).2=t2 c [59] x.2 from rfl]
     simp -implicitDefEqProofs[h0,h2,h3]
     refine call_go (ok40a hl hj _ _ [125]) ?_
     rw[show(takeR c [125] (t2 c [59] x.2)).2=t2 c [125] (t2 c [59] x.2)from rfl]
     subst hres
     simp -implicitDefEqProofs[h0,h2,h3,zS]
     refine⟨rfl,Cv.le (cv_fz (n0:=H.length) (r1:=.agg [i64 3,st (B lb),st (B []),i64 0,i64 0,nl,bl false,nl,nl,nl,.slc (Ex.cL x.1) x.1.length,i64 t.1]) (r:=.agg [i64 3,st (B lb),st (B []),i64 0,i64 0,nl,bl false,nl,nl,nl,.slc (Ex.cL x.1) x.1.length,i64 t.1]) 3 (closed_rd hcl) (by simp) ?_) ?_⟩
     · simp[SV.under,Ex.undL]
     · exact le_agg (leL.cons (SV.le.refl _) (leL.cons (SV.le.refl _) (leL.cons (SV.le.refl _) (leL.cons (SV.le.refl _) (leL.cons (SV.le.refl _) (leL.cons le_nil (leL.cons (SV.le.refl _) (leL.cons le_nil (leL.cons le_nil (leL.cons le_nil (leL.cons (SV.le.refl _) (leL.cons (SV.le.refl _) leL.nil))))))))))))
theorem ok46 (h20:c.ts.length≤20000) {d:Nat} {orP:Rd->Ex×Rd} (h1:RdC c 34 orP d) (hk:Kp c d orP):RdA c 46 [] (stageR c orP) stageV d:=by
 intro H j r hj hg
 have hl:c.ts.length<4611686018427387904:=by omega
 refine ok_fn hm Tryz.func46 c46 (by simp) fun hcl => ?_
 have tail:∀ (lb:List UInt8) (r1:Rd) (env:Env),labelR c r=(lb,r1)->Gd c d r1->env.get 0=rp j->env.get 2=.ptr (.own H.length 0 0 0 0) 0->env.get 3=.ptr (.own (H.length+1) 0 0 0 0) 0 →
  X Tryz.prog Tryz.f46.ntmps drawB (IC.tl 3 i46) env (H.set j (rdO c r1)++[zS,lbO lb]) (Fin H.length r46 (.ret (stageV (stageR c orP r).1)) (H.set j (rdO c (stageR c orP r).2))) :=
  fun lb r1 env hlb hg h0 h2 h3=>stage_t3 h20 hj (closed_rd hcl) h1 hk hg (by unfold stageR; rw[hlb]) h0 h2 h3
 rw[show i46=.seq (IC.nth 0 i46) (.seq (IC.nth 1 i46) (.seq (IC.nth 2 i46) (IC.tl 3 i46)))from rfl]
 generalize IC.tl 3 i46=t3 at tail ⊢
 simp -implicitDefEqProofs[IC.nth,i46]
 refine call_go (ok44a hj r _) ?_
 by_cases hf:freeR c r=true
 · have hlb:labelR c r=((wordR c r).1,t2 c [58] (wordR c r).2):=by unfold labelR; rw[if_pos hf]
   have g1:=(word_keep (c:=c) (d:=d) r hg).1
   simp -implicitDefEqProofs[hf]
   refine call_go (ok41a hl hj r _) ?_
   simp -implicitDefEqProofs
   refine call_go (ok40a hl hj _ _ [58]) ?_
   simp -implicitDefEqProofs
   exact tail _ _ _ hlb (t2_keep _ g1).1 (by simp) (by simp) (by simp)
 · have hlb:labelR c r=([],r):=by unfold labelR; rw[if_neg hf]
   rw[Bool.not_eq_true]at hf
   simp -implicitDefEqProofs[hf]
   exact tail _ _ _ hlb hg (by simp) (by simp) (by simp)
end
end Go.Proofs.YtmkdpmfhlfhjkaaGreatDoor
namespace Go.Proofs.YtmkdpmfhlfhjkaaGreatDoor
open Go.Ab
theorem RdA.mid {α:Type} {c:Cx} {k:FuncId} {args:List SV} {F:Rd->α×Rd} {v:α->SV} {d:Nat} (H A L:List AO) (h:RdA c k args F v d) {r:Rd} (hr:Gd c d r) :
 Ok Tryz.prog k (rp (H.length+A.length)::args) (H++(A++rdO c r::L)) (.ret (v (F r).1)) (H++(A++rdO c (F r).2::L)):=by
 have hg:=get_mid H A L (rdO c r)
 have:=h (H:=H++(A++rdO c r::L)) (getElem?_lt hg) hr
 rwa [set_same hg,set_mid]at this
theorem varR_keep {c:Cx} {d:Nat} (l:List VarP):Kp c d (varR c l):=by
 intro r h
 unfold varR
 dsimp only
 obtain⟨g0,i0⟩:=t2_keep [118,97,114] h
 obtain⟨g1,i1,_⟩:=full_keep (P:=l.length=40∧freeR c (t2 c [118,97,114] r)=true) g0
 generalize (if l.length=40∧freeR c (t2 c [118,97,114] r)=true then failR c 12 (t2 c [118,97,114] r)else t2 c [118,97,114] r)=r1 at *
 obtain⟨g2,i2⟩:=word_keep _ g1
 obtain⟨g3,i3⟩:=t2_keep [61] g2
 obtain⟨g4,i4⟩:=flagR_keep [45] _ g3
 obtain⟨g5,i5⟩:=num_keep _ g4
 obtain⟨g6,i6⟩:=t2_keep [59] g5
 exact⟨g6,by omega⟩
theorem varR_on {c:Cx} {d:Nat} (l:List VarP) {r:Rd} (h:Gd c d r) (he:(varR c l r).2.e=0):r.a<(varR c l r).2.a:=by
 unfold varR at he ⊢
 dsimp only at he ⊢
 obtain⟨g0,i0⟩:=t2_keep [118,97,114] h
 obtain⟨g1,i1,_⟩:=full_keep (P:=l.length=40∧freeR c (t2 c [118,97,114] r)=true) g0
 generalize (if l.length=40∧freeR c (t2 c [118,97,114] r)=true then failR c 12 (t2 c [118,97,114] r)else t2 c [118,97,114] r)=r1 at *
 obtain⟨g2,i2⟩:=word_keep _ g1
 obtain⟨g3,i3⟩:=t2_keep [61] g2
 obtain⟨g4,i4⟩:=flagR_keep [45] _ g3
 obtain⟨g5,i5⟩:=num_keep _ g4
 have:=(t2_strict he).2
 omega
theorem varsL_keep {c:Cx} {d:Nat}:∀ (n:Nat) (l:List VarP) (r:Rd),Gd c d r->Gd c d (varsL c n l r).2∧r.a≤(varsL c n l r).2.a
 | 0,l,r,h=>⟨h,Nat.le_refl _⟩
 | n+1,l,r,h=>by
  rw[varsL]
  split
  · obtain⟨h6,h7⟩:=varR_keep l r h
    obtain⟨h8,h9⟩:=varsL_keep n (l++[(varR c l r).1]) _ h6
    exact⟨h8,by omega⟩
  · exact⟨h,Nat.le_refl _⟩
theorem VarP.c_len (v:VarP):v.c.length=3:=rfl
theorem VarP.und (n:Nat) (v:VarP):SV.underL n v.c=true:=rfl
@[simp] theorem vars_fzm (n:Nat) (ks:List Nat) (L:List AO) (d:Nat) (l:List VarP):(rws VarP.c l).map (SV.fz n ks L (d+1))=rws VarP.c l:=map_fz_under _ _ _ _ (rws_under (VarP.und _) l)
@[simp] theorem stages_fzm (n:Nat) (ks:List Nat) (L:List AO) (d:Nat) (l:List StageP):(rws StageP.c l).map (SV.fz n ks L (d+1))=rws StageP.c l:=map_fz_under _ _ _ _ (rws_under (StageP.und _) l)
def zR:AO:=⟨[st (B []),i64 0,nl,nl],36,0,true⟩
def flO (e p:Int):AO:=⟨[i64 e,i64 p],28,0,true⟩
def outO (n:Nat) (nm:List UInt8) (pl:Int) (v s:Nat):AO:=⟨[st (B nm),i64 pl,.own (n+5) 0 v 3 v,.own (n+6) 0 s 12 s],36,0,true⟩
def varsO (l:List VarP):AO:=⟨rws VarP.c l,75,l.length,true⟩
def stgsO (l:List StageP):AO:=⟨rws StageP.c l,78,l.length,true⟩
abbrev paA:List AO:=[zR,flO 0 0,flO 0 0]
abbrev paL (n:Nat) (nm:List UInt8) (pl:Int) (vs:List VarP) (ss:List StageP) (G:List AO):List AO:=outO n nm pl vs.length ss.length::varsO vs::stgsO ss::G
section
variable {H:List AO} {c:Cx} {r:Rd} {nm:List UInt8} {pl:Int}
theorem loop15_0 (h20:c.ts.length≤20000) {d:Nat} {N:Nat} {K:XE->Env->List AO->Prop} {res:List VarP×Rd}
 (hexit:∀ env G,env.get 2=.ptr (.own H.length 0 0 0 0) 0->env.get 3=.ptr (.own (H.length+1) 0 0 0 0) 0->env.get 6=rp (H.length+3)->env.get 7=.ptr (.own (H.length+4) 0 0 0 0) 0->K (.exit 0) env (H++(paA++rdO c res.2::paL H.length nm pl res.1 [] G))) :
 ∀ (n:Nat) (l:List VarP) (r:Rd) (G:List AO) (env:Env),c.ts.length≤r.a+n->l.length≤r.a->varsL c n l r=res->Gd c d r->env.get 2=.ptr (.own H.length 0 0 0 0) 0->env.get 3=.ptr (.own (H.length+1) 0 0 0 0) 0->env.get 6=rp (H.length+3)->env.get 7=.ptr (.own (H.length+4) 0 0 0 0) 0 →
  LI Tryz.prog N drawB l15_0 env (H++(paA++rdO c r::paL H.length nm pl l [] G)) K:=by
 have hl:c.ts.length<4611686018427387904:=by omega
 have out_ok:∀ (l:List VarP) (r:Rd) (G:List AO) (env:Env),peekR c [118,97,114] r=false->(l,r)=res->env.get 2=.ptr (.own H.length 0 0 0 0) 0->env.get 3=.ptr (.own (H.length+1) 0 0 0 0) 0->env.get 6=rp (H.length+3)->env.get 7=.ptr (.own (H.length+4) 0 0 0 0) 0 →
  LI Tryz.prog N drawB l15_0 env (H++(paA++rdO c r::paL H.length nm pl l [] G)) K:=by
  intro l r G env hp hr h2 h3 h6 h7
  subst hr
  refine li_go hm l15_0.eq_1 ?_
  simp -implicitDefEqProofs[h2,h3,h6,h7]
  refine call_go (ok43m H paA (paL H.length nm pl l [] G) r [118,97,114]) ?_
  simp -implicitDefEqProofs[h2,h3,h6,h7,hp]
  exact hexit _ G (by simp[h2]) (by simp[h3]) (by simp[h6]) (by simp[h7])
 intro n
 induction n with
 | zero =>
  intro l r G env hn hla hr hg h2 h3 h6 h7
  exact out_ok l r G env (by rw[←Bool.not_eq_true]; intro h; have:=peek_lt h; omega) hr h2 h3 h6 h7
 | succ n ih =>
  intro l r G env hn hla hr hg h2 h3 h6 h7
  rw[varsL]at hr
  by_cases hp:peekR c [118,97,114] r=true
  · rw[if_pos hp]at hr
    have hla2:=hg.a
    obtain⟨k1,k2⟩:=varR_keep l r hg
    have fin:∀ (env:Env) (G:List AO),env.get 2=.ptr (.own H.length 0 0 0 0) 0->env.get 3=.ptr (.own (H.length+1) 0 0 0 0) 0->env.get 6=rp (H.length+3)->env.get 7=.ptr (.own (H.length+4) 0 0 0 0) 0 →
     LI Tryz.prog N drawB l15_0 env (H++(paA++rdO c (varR c l r).2::paL H.length nm pl (l++[(varR c l r).1]) [] G)) K:=by
     intro env G g2 g3 g6 g7
     by_cases he:(varR c l r).2.e=0
     · have:=varR_on l hg he
       exact ih _ _ G env (by omega) (by simp; omega) hr k1 g2 g3 g6 g7
     · refine out_ok _ _ G env (peek_bad he _) ?_ g2 g3 g6 g7
       rw[←hr]
       cases n with
       | zero=>rfl
       | succ n=>rw[varsL,if_neg (by rw[peek_bad he]; decide)]
    refine li_go hm l15_0.eq_1 ?_
    simp -implicitDefEqProofs[h2,h3,h6,h7]
    refine call_go (ok43m H paA (paL H.length nm pl l [] G) r [118,97,114]) ?_
    simp -implicitDefEqProofs[h2,h3,h6,h7,hp]
    refine call_go (ok40m H paA (paL H.length nm pl l [] G) r hl [118,97,114]) ?_
    simp -implicitDefEqProofs[h2,h3,h6,h7,outO]
    have hset:∀ r1,(if l.length=40∧freeR c (t2 c [118,97,114] r)=true then failR c 12 (t2 c [118,97,114] r)else t2 c [118,97,114] r)=r1->varR c l r =
     (⟨(wordR c r1).1,IntKind.i64.wrap ((if(flagR c [45] (t2 c [61] (wordR c r1).2)).1 then -1 else 1)*(nmR c (flagR c [45] (t2 c [61] (wordR c r1).2)).2).1),hereR c r1⟩,t2 c [59] (nmR c (flagR c [45] (t2 c [61] (wordR c r1).2)).2).2):=fun r1 h=>by subst h; rfl
    rw[show(takeR c [118,97,114] r).2=t2 c [118,97,114] r from rfl]
    generalize t2 c [118,97,114] r=r0 at hset ⊢
    by_cases h40:l.length=40
    · have hd:decide ((l.length:Int)=40)=true:=decide_eq_true (by omega)
      by_cases hf:freeR c r0=true
      · refine callq_st (r:=bl (freeR c r0)) (fun _=>by rw[hd]; exact ok44m H paA _ r0) ?_
        simp -implicitDefEqProofs[h2,h3,h6,h7,hd,hf]
        refine call_go (ok35m H paA _ r0 12) ?_
        simp -implicitDefEqProofs[h2,h3,h6,h7]
        have hset:=hset _ (if_pos ⟨h40,hf⟩)
        refine call_go (ok45m H paA _ (failR c 12 r0)) ?_
        simp -implicitDefEqProofs[h2,h3,h6,h7]
        refine call_go (ok41m H paA _ (failR c 12 r0) hl) ?_
        simp -implicitDefEqProofs[h2,h3,h6,h7]
        refine call_go (ok40m H paA _ (wordR c (failR c 12 r0)).2 hl [61]) ?_
        rw[show(takeR c [61] (wordR c (failR c 12 r0)).2).2=t2 c [61] (wordR c (failR c 12 r0)).2 from rfl]
        simp -implicitDefEqProofs[h2,h3,h6,h7]
        refine call_go (ok43m H paA _ (t2 c [61] (wordR c (failR c 12 r0)).2) [45]) ?_
        by_cases hq:peekR c [45] (t2 c [61] (wordR c (failR c 12 r0)).2)=true
        · have hf:flagR c [45] (t2 c [61] (wordR c (failR c 12 r0)).2)=(true,t2 c [45] (t2 c [61] (wordR c (failR c 12 r0)).2)):=by unfold flagR; rw[if_pos hq]
          rw[hf]at hset
          dsimp only at hset
          simp -implicitDefEqProofs[h2,h3,h6,h7,hq]
          refine call_go (ok40m H paA _ (t2 c [61] (wordR c (failR c 12 r0)).2) hl [45]) ?_
          rw[show(takeR c [45] (t2 c [61] (wordR c (failR c 12 r0)).2)).2=t2 c [45] (t2 c [61] (wordR c (failR c 12 r0)).2)from rfl]
          simp -implicitDefEqProofs[h2,h3,h6,h7]
          refine call_go (ok42m H paA _ (t2 c [45] (t2 c [61] (wordR c (failR c 12 r0)).2)) hl) ?_
          simp -implicitDefEqProofs[h2,h3,h6,h7]
          refine call_go (ok40m H paA _ (nmR c (t2 c [45] (t2 c [61] (wordR c (failR c 12 r0)).2))).2 hl [59]) ?_
          simp -implicitDefEqProofs[h2,h3,h6,h7,varsO,outO,rws_len VarP.c_len]
          refine⟨by omega,by omega,?_⟩
          refine LI.cong ?_ (fin _ (G++[⟨(varR c l r).1.c,75,0,true⟩,⟨(varR c l r).1.c,75,0,true⟩]) ?_ ?_ ?_ ?_)
          · rw[hset]; simp[outO,varsO,stgsO,rws_app,rws,VarP.c,t2]
          all_goals simp[h2,h3,h6,h7]
        · have hf:flagR c [45] (t2 c [61] (wordR c (failR c 12 r0)).2)=(false,t2 c [61] (wordR c (failR c 12 r0)).2):=by unfold flagR; rw[if_neg hq]
          rw[hf]at hset
          dsimp only at hset
          rw[Bool.not_eq_true]at hq
          simp -implicitDefEqProofs[h2,h3,h6,h7,hq]
          refine call_go (ok42m H paA _ (t2 c [61] (wordR c (failR c 12 r0)).2) hl) ?_
          simp -implicitDefEqProofs[h2,h3,h6,h7]
          refine call_go (ok40m H paA _ (nmR c (t2 c [61] (wordR c (failR c 12 r0)).2)).2 hl [59]) ?_
          simp -implicitDefEqProofs[h2,h3,h6,h7,varsO,outO,rws_len VarP.c_len]
          refine⟨by omega,by omega,?_⟩
          refine LI.cong ?_ (fin _ (G++[⟨(varR c l r).1.c,75,0,true⟩,⟨(varR c l r).1.c,75,0,true⟩]) ?_ ?_ ?_ ?_)
          · rw[hset]; simp[outO,varsO,stgsO,rws_app,rws,VarP.c,t2]
          all_goals simp[h2,h3,h6,h7]
      · have hnf:=hf
        rw[Bool.not_eq_true]at hf
        refine callq_st (r:=bl (freeR c r0)) (fun _=>by rw[hd]; exact ok44m H paA _ r0) ?_
        simp -implicitDefEqProofs[h2,h3,h6,h7,hd,hf]
        have hset:=hset _ (if_neg (fun h=>hnf h.2))
        refine call_go (ok45m H paA _ (r0)) ?_
        simp -implicitDefEqProofs[h2,h3,h6,h7]
        refine call_go (ok41m H paA _ (r0) hl) ?_
        simp -implicitDefEqProofs[h2,h3,h6,h7]
        refine call_go (ok40m H paA _ (wordR c (r0)).2 hl [61]) ?_
        rw[show(takeR c [61] (wordR c (r0)).2).2=t2 c [61] (wordR c (r0)).2 from rfl]
        simp -implicitDefEqProofs[h2,h3,h6,h7]
        refine call_go (ok43m H paA _ (t2 c [61] (wordR c (r0)).2) [45]) ?_
        by_cases hq:peekR c [45] (t2 c [61] (wordR c (r0)).2)=true
        · have hf:flagR c [45] (t2 c [61] (wordR c (r0)).2)=(true,t2 c [45] (t2 c [61] (wordR c (r0)).2)):=by unfold flagR; rw[if_pos hq]
          rw[hf]at hset
          dsimp only at hset
          simp -implicitDefEqProofs[h2,h3,h6,h7,hq]
          refine call_go (ok40m H paA _ (t2 c [61] (wordR c (r0)).2) hl [45]) ?_
          rw[show(takeR c [45] (t2 c [61] (wordR c (r0)).2)).2=t2 c [45] (t2 c [61] (wordR c (r0)).2)from rfl]
          simp -implicitDefEqProofs[h2,h3,h6,h7]
          refine call_go (ok42m H paA _ (t2 c [45] (t2 c [61] (wordR c (r0)).2)) hl) ?_
          simp -implicitDefEqProofs[h2,h3,h6,h7]
          refine call_go (ok40m H paA _ (nmR c (t2 c [45] (t2 c [61] (wordR c (r0)).2))).2 hl [59]) ?_
          simp -implicitDefEqProofs[h2,h3,h6,h7,varsO,outO,rws_len VarP.c_len]
          refine⟨by omega,by omega,?_⟩
          refine LI.cong ?_ (fin _ (G++[⟨(varR c l r).1.c,75,0,true⟩,⟨(varR c l r).1.c,75,0,true⟩]) ?_ ?_ ?_ ?_)
          · rw[hset]; simp[outO,varsO,stgsO,rws_app,rws,VarP.c,t2]
          all_goals simp[h2,h3,h6,h7]
        · have hf:flagR c [45] (t2 c [61] (wordR c (r0)).2)=(false,t2 c [61] (wordR c (r0)).2):=by unfold flagR; rw[if_neg hq]
          rw[hf]at hset
          dsimp only at hset
          rw[Bool.not_eq_true]at hq
          simp -implicitDefEqProofs[h2,h3,h6,h7,hq]
          refine call_go (ok42m H paA _ (t2 c [61] (wordR c (r0)).2) hl) ?_
          simp -implicitDefEqProofs[h2,h3,h6,h7]
          refine call_go (ok40m H paA _ (nmR c (t2 c [61] (wordR c (r0)).2)).2 hl [59]) ?_
          simp -implicitDefEqProofs[h2,h3,h6,h7,varsO,outO,rws_len VarP.c_len]
          refine⟨by omega,by omega,?_⟩
          refine LI.cong ?_ (fin _ (G++[⟨(varR c l r).1.c,75,0,true⟩,⟨(varR c l r).1.c,75,0,true⟩]) ?_ ?_ ?_ ?_)
          · rw[hset]; simp[outO,varsO,stgsO,rws_app,rws,VarP.c,t2]
          all_goals simp[h2,h3,h6,h7]
    · have hd:decide ((l.length:Int)=40)=false:=decide_eq_false (by omega)
      refine callq_go (r:=bl false) (fun h=>by rw[hd]at h; cases h) ?_
      simp -implicitDefEqProofs[h2,h3,h6,h7,hd]
      have hset:=hset _ (if_neg (fun h=>h40 h.1))
      refine call_go (ok45m H paA _ (r0)) ?_
      simp -implicitDefEqProofs[h2,h3,h6,h7]
      refine call_go (ok41m H paA _ (r0) hl) ?_
      simp -implicitDefEqProofs[h2,h3,h6,h7]
      refine call_go (ok40m H paA _ (wordR c (r0)).2 hl [61]) ?_
      rw[show(takeR c [61] (wordR c (r0)).2).2=t2 c [61] (wordR c (r0)).2 from rfl]
      simp -implicitDefEqProofs[h2,h3,h6,h7]
      refine call_go (ok43m H paA _ (t2 c [61] (wordR c (r0)).2) [45]) ?_
      by_cases hq:peekR c [45] (t2 c [61] (wordR c (r0)).2)=true
      · have hf:flagR c [45] (t2 c [61] (wordR c (r0)).2)=(true,t2 c [45] (t2 c [61] (wordR c (r0)).2)):=by unfold flagR; rw[if_pos hq]
        rw[hf]at hset
        dsimp only at hset
        simp -implicitDefEqProofs[h2,h3,h6,h7,hq]
        refine call_go (ok40m H paA _ (t2 c [61] (wordR c (r0)).2) hl [45]) ?_
        rw[show(takeR c [45] (t2 c [61] (wordR c (r0)).2)).2=t2 c [45] (t2 c [61] (wordR c (r0)).2)from rfl]
        simp -implicitDefEqProofs[h2,h3,h6,h7]
        refine call_go (ok42m H paA _ (t2 c [45] (t2 c [61] (wordR c (r0)).2)) hl) ?_
        simp -implicitDefEqProofs[h2,h3,h6,h7]
        refine call_go (ok40m H paA _ (nmR c (t2 c [45] (t2 c [61] (wordR c (r0)).2))).2 hl [59]) ?_
        simp -implicitDefEqProofs[h2,h3,h6,h7,varsO,outO,rws_len VarP.c_len]
        refine⟨by omega,by omega,?_⟩
        refine LI.cong ?_ (fin _ (G++[⟨(varR c l r).1.c,75,0,true⟩,⟨(varR c l r).1.c,75,0,true⟩]) ?_ ?_ ?_ ?_)
        · rw[hset]; simp[outO,varsO,stgsO,rws_app,rws,VarP.c,t2]
        all_goals simp[h2,h3,h6,h7]
      · have hf:flagR c [45] (t2 c [61] (wordR c (r0)).2)=(false,t2 c [61] (wordR c (r0)).2):=by unfold flagR; rw[if_neg hq]
        rw[hf]at hset
        dsimp only at hset
        rw[Bool.not_eq_true]at hq
        simp -implicitDefEqProofs[h2,h3,h6,h7,hq]
        refine call_go (ok42m H paA _ (t2 c [61] (wordR c (r0)).2) hl) ?_
        simp -implicitDefEqProofs[h2,h3,h6,h7]
        refine call_go (ok40m H paA _ (nmR c (t2 c [61] (wordR c (r0)).2)).2 hl [59]) ?_
        simp -implicitDefEqProofs[h2,h3,h6,h7,varsO,outO,rws_len VarP.c_len]
        refine⟨by omega,by omega,?_⟩
        refine LI.cong ?_ (fin _ (G++[⟨(varR c l r).1.c,75,0,true⟩,⟨(varR c l r).1.c,75,0,true⟩]) ?_ ?_ ?_ ?_)
        · rw[hset]; simp[outO,varsO,stgsO,rws_app,rws,VarP.c,t2]
        all_goals simp[h2,h3,h6,h7]
  · rw[if_neg hp]at hr
    rw[Bool.not_eq_true]at hp
    exact out_ok l r G env hp hr h2 h3 h6 h7
end
end Go.Proofs.YtmkdpmfhlfhjkaaGreatDoor
namespace Go.Proofs.YtmkdpmfhlfhjkaaGreatDoor
open Go.Ab
theorem label_still {c:Cx}:Still (labelR c):=fun r h=>by unfold labelR; rw[if_neg (by rw[free_bad h]; decide)]
theorem seen_still {c:Cx}:Still (seenR c):=fun r h=>by unfold seenR; rw[if_neg (by rw[peek_bad h]; decide)]
theorem exprs_still {c:Cx} {orP:Rd->Ex×Rd} (ho:Still orP):Still (exprsR c orP):=by
 intro r h
 unfold exprsR
 rw[ho r h]
 cases c.ts.length with
 | zero=>rfl
 | succ n=>rw[exprsL,if_neg (by rw[peek_bad h]; decide)]
theorem stage_still {c:Cx} {orP:Rd->Ex×Rd} (ho:Still orP):Still (stageR c orP):=by
 intro r h
 unfold stageR
 dsimp only
 rw[label_still r h,if_neg (by rw[peek_bad h]; decide),if_neg (by rw[peek_bad h]; decide)]
 dsimp only
 rw[take_still _ r h,t2_still _ h,t2_still _ h,exprs_still ho r h,t2_still _ h,t2_still _ h]
section
variable {H:List AO} {c:Cx} {r:Rd} {nm:List UInt8} {pl:Int} {vs:List VarP}
theorem loop15_1 (h20:c.ts.length≤20000) {d:Nat} {orP:Rd->Ex×Rd} (h1:RdC c 34 orP d) (hk:Kp c d orP) (hst:Still orP) {N:Nat} {K:XE->Env->List AO->Prop} {res:List StageP×Rd}
 (hexit:∀ env G,env.get 2=.ptr (.own H.length 0 0 0 0) 0->env.get 3=.ptr (.own (H.length+1) 0 0 0 0) 0->env.get 6=rp (H.length+3)->env.get 7=.ptr (.own (H.length+4) 0 0 0 0) 0->K (.exit 2) env (H++(paA++rdO c res.2::paL H.length nm pl vs res.1 G))) :
 ∀ (n:Nat) (l:List StageP) (r:Rd) (G:List AO) (env:Env),(r.e=0->c.ts.length<r.a+n)->l.length≤r.a->stagesL c orP n l r=res->Gd c d r->env.get 2=.ptr (.own H.length 0 0 0 0) 0->env.get 3=.ptr (.own (H.length+1) 0 0 0 0) 0->env.get 6=rp (H.length+3)->env.get 7=.ptr (.own (H.length+4) 0 0 0 0) 0 →
  LI Tryz.prog N drawB l15_1 env (H++(paA++rdO c r::paL H.length nm pl vs l G)) K:=by
 have hl:c.ts.length<4611686018427387904:=by omega
 have out_ok:∀ (l:List StageP) (r:Rd) (G:List AO) (env:Env),¬ (r.e=0∧(l=[]∨r.a<c.ts.length))->(l,r)=res->env.get 2=.ptr (.own H.length 0 0 0 0) 0->env.get 3=.ptr (.own (H.length+1) 0 0 0 0) 0->env.get 6=rp (H.length+3)->env.get 7=.ptr (.own (H.length+4) 0 0 0 0) 0 →
  LI Tryz.prog N drawB l15_1 env (H++(paA++rdO c r::paL H.length nm pl vs l G)) K:=by
  intro l r G env hp hr h2 h3 h6 h7
  subst hr
  refine li_go hm l15_1.eq_1 ?_
  simp -implicitDefEqProofs[h2,h3,h6,h7]
  refine callq_go (fun _=>ok36m H paA (paL H.length nm pl vs l G) r) ?_
  by_cases he:r.e=0
  · have hne:¬ l=[]:=fun h=>hp ⟨he,.inl h⟩
    have hlt:¬ r.a<c.ts.length:=fun h=>hp ⟨he,.inr h⟩
    have hne':¬ l.length=0:=by cases l with | nil=>exact absurd rfl hne | cons x y=>simp
    have hne2:¬ (l.length:Int)=0:=by omega
    have hlt':¬ (r.a:Int)<c.ts.length:=by omega
    have he0:decide (r.e=0)=true:=decide_eq_true he
    simp -implicitDefEqProofs[h2,h3,h6,h7,he0,rp,outO,rdO,tksV,hne,hne',hne2,hlt,hlt']
    refine hexit _ G ?_ ?_ ?_ ?_<;>simp[h2,h3,h6,h7,rp]
  · simp -implicitDefEqProofs[h2,h3,h6,h7,he,rp]
    refine hexit _ G ?_ ?_ ?_ ?_<;>simp[h2,h3,h6,h7,rp]
 intro n
 induction n with
 | zero =>
  intro l r G env hn hla hr hg h2 h3 h6 h7
  have:=hg.a
  exact out_ok l r G env (fun h=>by have:=hn h.1; omega) hr h2 h3 h6 h7
 | succ n ih =>
  intro l r G env hn hla hr hg h2 h3 h6 h7
  rw[stagesL]at hr
  by_cases hp:r.e=0∧(l=[]∨r.a<c.ts.length)
  · rw[if_pos hp]at hr
    have hla2:=hg.a
    have hfk:=full_keep (P:=l.length=100∧(freeR c r||peekR c [100,101,97,108] r||peekR c [116,117,114,110] r||peekR c [101,110,100] r)=true) hg
    have fin:∀ (env:Env) (r2:Rd),fullR c l r=r2->∀ G,env.get 2=.ptr (.own H.length 0 0 0 0) 0->env.get 3=.ptr (.own (H.length+1) 0 0 0 0) 0->env.get 6=rp (H.length+3)->env.get 7=.ptr (.own (H.length+4) 0 0 0 0) 0 →
     LI Tryz.prog N drawB l15_1 env (H++(paA++rdO c (stageR c orP r2).2::paL H.length nm pl vs (l++[(stageR c orP r2).1]) G)) K:=by
     intro env r2 hf G g2 g3 g6 g7
     have hfk':Gd c d r2∧r2.a=r.a∧(r2.e=0->r.e=0):=by rw[←hf]; exact hfk
     rw[hf]at hr
     obtain⟨k1,k2⟩:=stageR_keep hk r2 hfk'.1
     by_cases he:(stageR c orP r2).2.e=0
     · have:=stageR_on hk hfk'.1 he
       exact ih _ _ G env (fun _=>by have:=hn hp.1; omega) (by simp; omega) hr k1 g2 g3 g6 g7
     · refine out_ok _ _ G env (fun h=>he h.1) ?_ g2 g3 g6 g7
       rw[←hr]
       cases n with
       | zero=>rfl
       | succ n=>rw[stagesL,if_neg (fun h=>he h.1)]
    refine li_go hm l15_1.eq_1 ?_
    simp -implicitDefEqProofs[h2,h3,h6,h7]
    refine callq_go (fun _=>ok36m H paA (paL H.length nm pl vs l G) r) ?_
    have hl0:((l.length:Int)=0)↔l=[]:=by cases l with | nil=>simp | cons x y=>simp; omega
    by_cases hnil:l=[]
    · have hz:l.length=0:=by simp[hnil]
      have hz':(l.length:Int)=0:=by omega
      have he0:decide (r.e=0)=true:=decide_eq_true hp.1
      have hdz:decide ((l.length:Int)=0)=true:=decide_eq_true hz'
      simp -implicitDefEqProofs[h2,h3,h6,h7,he0,rp,outO,rdO,tksV,hdz]
      rw[if_pos (.inl hnil)]
      have hd:decide ((l.length:Int)=100)=false:=decide_eq_false (by omega)
      have h100:¬ l.length=100:=by omega
      refine callq_go (r:=bl false) (fun h=>by first | (rw[hd]at h; cases h) | cases h) ?_
      simp -implicitDefEqProofs[h2,h3,h6,h7,outO,hd]
      refine callq_go (r:=bl false) (fun h=>by first | (rw[hd]at h; cases h) | cases h) ?_
      simp -implicitDefEqProofs[h2,h3,h6,h7,outO,hd]
      refine callq_go (r:=bl false) (fun h=>by first | (rw[hd]at h; cases h) | cases h) ?_
      simp -implicitDefEqProofs[h2,h3,h6,h7,outO,hd]
      refine callq_go (r:=bl false) (fun h=>by first | (rw[hd]at h; cases h) | cases h) ?_
      simp -implicitDefEqProofs[h2,h3,h6,h7,outO,hd]
      refine call_go (RdA.mid H paA _ (ok46 h20 h1 hk) (r:=r) hg) ?_
      simp -implicitDefEqProofs[h2,h3,h6,h7,stageV,outO,stgsO,rws_len StageP.c_len]
      refine⟨by omega,by omega,?_⟩
      refine LI.cong ?_ (fin _ (r) (if_neg (fun h=>h100 h.1)) (G++[⟨(stageR c orP (r)).1.c,78,0,true⟩]) ?_ ?_ ?_ ?_)
      · simp[outO,stgsO,rws_app,rws]
      all_goals simp[h2,h3,h6,h7]
    have hlt:r.a<c.ts.length:=hp.2.resolve_left hnil
    have hlt':(r.a:Int)<c.ts.length:=by omega
    have hz:¬ l.length=0:=by cases l with | nil=>exact absurd rfl hnil | cons x y=>simp
    have hz':¬ (l.length:Int)=0:=by omega
    have he0:decide (r.e=0)=true:=decide_eq_true hp.1
    simp -implicitDefEqProofs[h2,h3,h6,h7,he0,rp,outO,rdO,tksV,hz,hz',hnil,hlt,hlt']
    by_cases h100:l.length=100
    · have hd:decide ((l.length:Int)=100)=true:=decide_eq_true (by omega)
      by_cases q0:freeR c r=true
      · skip
        refine callq_st (r:=bl (freeR c r)) (fun _=>by first | (rw[hd]; exact ok44m H paA _ r) | exact ok44m H paA _ r) ?_
        simp -implicitDefEqProofs[h2,h3,h6,h7,outO,hd,q0]
        refine callq_go (r:=bl true) (fun h=>by cases h) ?_
        simp -implicitDefEqProofs[h2,h3,h6,h7,outO,hd,q0]
        refine callq_go (r:=bl true) (fun h=>by cases h) ?_
        simp -implicitDefEqProofs[h2,h3,h6,h7,outO,hd,q0]
        refine callq_go (r:=bl true) (fun h=>by cases h) ?_
        simp -implicitDefEqProofs[h2,h3,h6,h7,outO,hd,q0]
        refine call_go (ok35m H paA _ r 12) ?_
        simp -implicitDefEqProofs[h2,h3,h6,h7,outO]
        refine call_go (RdA.mid H paA _ (ok46 h20 h1 hk) (r:=failR c 12 r) (fail_keep (e:=12) (by decide) hg).1) ?_
        simp -implicitDefEqProofs[h2,h3,h6,h7,stageV,outO,stgsO,rws_len StageP.c_len]
        refine⟨by omega,by omega,?_⟩
        refine LI.cong ?_ (fin _ (failR c 12 r) (if_pos ⟨h100,by simp[q0]⟩) (G++[⟨(stageR c orP (failR c 12 r)).1.c,78,0,true⟩]) ?_ ?_ ?_ ?_)
        · simp[outO,stgsO,rws_app,rws]
        all_goals simp[h2,h3,h6,h7]
      rw[Bool.not_eq_true]at q0
      by_cases q1:peekR c [100,101,97,108] r=true
      · skip
        refine callq_st (r:=bl (freeR c r)) (fun _=>by first | (rw[hd]; exact ok44m H paA _ r) | exact ok44m H paA _ r) ?_
        simp -implicitDefEqProofs[h2,h3,h6,h7,outO,hd,q0,q1]
        refine callq_st (r:=bl (peekR c [100,101,97,108] r)) (fun _=>by first | (rw[hd]; exact ok43m H paA _ r [100,101,97,108]) | exact ok43m H paA _ r [100,101,97,108]) ?_
        simp -implicitDefEqProofs[h2,h3,h6,h7,outO,hd,q0,q1]
        refine callq_go (r:=bl true) (fun h=>by cases h) ?_
        simp -implicitDefEqProofs[h2,h3,h6,h7,outO,hd,q0,q1]
        refine callq_go (r:=bl true) (fun h=>by cases h) ?_
        simp -implicitDefEqProofs[h2,h3,h6,h7,outO,hd,q0,q1]
        refine call_go (ok35m H paA _ r 12) ?_
        simp -implicitDefEqProofs[h2,h3,h6,h7,outO]
        refine call_go (RdA.mid H paA _ (ok46 h20 h1 hk) (r:=failR c 12 r) (fail_keep (e:=12) (by decide) hg).1) ?_
        simp -implicitDefEqProofs[h2,h3,h6,h7,stageV,outO,stgsO,rws_len StageP.c_len]
        refine⟨by omega,by omega,?_⟩
        refine LI.cong ?_ (fin _ (failR c 12 r) (if_pos ⟨h100,by simp[q0,q1]⟩) (G++[⟨(stageR c orP (failR c 12 r)).1.c,78,0,true⟩]) ?_ ?_ ?_ ?_)
        · simp[outO,stgsO,rws_app,rws]
        all_goals simp[h2,h3,h6,h7]
      rw[Bool.not_eq_true]at q1
      by_cases q2:peekR c [116,117,114,110] r=true
      · skip
        refine callq_st (r:=bl (freeR c r)) (fun _=>by first | (rw[hd]; exact ok44m H paA _ r) | exact ok44m H paA _ r) ?_
        simp -implicitDefEqProofs[h2,h3,h6,h7,outO,hd,q0,q1,q2]
        refine callq_st (r:=bl (peekR c [100,101,97,108] r)) (fun _=>by first | (rw[hd]; exact ok43m H paA _ r [100,101,97,108]) | exact ok43m H paA _ r [100,101,97,108]) ?_
        simp -implicitDefEqProofs[h2,h3,h6,h7,outO,hd,q0,q1,q2]
        refine callq_st (r:=bl (peekR c [116,117,114,110] r)) (fun _=>by first | (rw[hd]; exact ok43m H paA _ r [116,117,114,110]) | exact ok43m H paA _ r [116,117,114,110]) ?_
        simp -implicitDefEqProofs[h2,h3,h6,h7,outO,hd,q0,q1,q2]
        refine callq_go (r:=bl true) (fun h=>by cases h) ?_
        simp -implicitDefEqProofs[h2,h3,h6,h7,outO,hd,q0,q1,q2]
        refine call_go (ok35m H paA _ r 12) ?_
        simp -implicitDefEqProofs[h2,h3,h6,h7,outO]
        refine call_go (RdA.mid H paA _ (ok46 h20 h1 hk) (r:=failR c 12 r) (fail_keep (e:=12) (by decide) hg).1) ?_
        simp -implicitDefEqProofs[h2,h3,h6,h7,stageV,outO,stgsO,rws_len StageP.c_len]
        refine⟨by omega,by omega,?_⟩
        refine LI.cong ?_ (fin _ (failR c 12 r) (if_pos ⟨h100,by simp[q0,q1,q2]⟩) (G++[⟨(stageR c orP (failR c 12 r)).1.c,78,0,true⟩]) ?_ ?_ ?_ ?_)
        · simp[outO,stgsO,rws_app,rws]
        all_goals simp[h2,h3,h6,h7]
      rw[Bool.not_eq_true]at q2
      by_cases q3:peekR c [101,110,100] r=true
      · skip
        refine callq_st (r:=bl (freeR c r)) (fun _=>by first | (rw[hd]; exact ok44m H paA _ r) | exact ok44m H paA _ r) ?_
        simp -implicitDefEqProofs[h2,h3,h6,h7,outO,hd,q0,q1,q2,q3]
        refine callq_st (r:=bl (peekR c [100,101,97,108] r)) (fun _=>by first | (rw[hd]; exact ok43m H paA _ r [100,101,97,108]) | exact ok43m H paA _ r [100,101,97,108]) ?_
        simp -implicitDefEqProofs[h2,h3,h6,h7,outO,hd,q0,q1,q2,q3]
        refine callq_st (r:=bl (peekR c [116,117,114,110] r)) (fun _=>by first | (rw[hd]; exact ok43m H paA _ r [116,117,114,110]) | exact ok43m H paA _ r [116,117,114,110]) ?_
        simp -implicitDefEqProofs[h2,h3,h6,h7,outO,hd,q0,q1,q2,q3]
        refine callq_st (r:=bl (peekR c [101,110,100] r)) (fun _=>by first | (rw[hd]; exact ok43m H paA _ r [101,110,100]) | exact ok43m H paA _ r [101,110,100]) ?_
        simp -implicitDefEqProofs[h2,h3,h6,h7,outO,hd,q0,q1,q2,q3]
        refine call_go (ok35m H paA _ r 12) ?_
        simp -implicitDefEqProofs[h2,h3,h6,h7,outO]
        refine call_go (RdA.mid H paA _ (ok46 h20 h1 hk) (r:=failR c 12 r) (fail_keep (e:=12) (by decide) hg).1) ?_
        simp -implicitDefEqProofs[h2,h3,h6,h7,stageV,outO,stgsO,rws_len StageP.c_len]
        refine⟨by omega,by omega,?_⟩
        refine LI.cong ?_ (fin _ (failR c 12 r) (if_pos ⟨h100,by simp[q0,q1,q2,q3]⟩) (G++[⟨(stageR c orP (failR c 12 r)).1.c,78,0,true⟩]) ?_ ?_ ?_ ?_)
        · simp[outO,stgsO,rws_app,rws]
        all_goals simp[h2,h3,h6,h7]
      rw[Bool.not_eq_true]at q3
      refine callq_st (r:=bl (freeR c r)) (fun _=>by first | (rw[hd]; exact ok44m H paA _ r) | exact ok44m H paA _ r) ?_
      simp -implicitDefEqProofs[h2,h3,h6,h7,outO,hd,q0,q1,q2,q3]
      refine callq_st (r:=bl (peekR c [100,101,97,108] r)) (fun _=>by first | (rw[hd]; exact ok43m H paA _ r [100,101,97,108]) | exact ok43m H paA _ r [100,101,97,108]) ?_
      simp -implicitDefEqProofs[h2,h3,h6,h7,outO,hd,q0,q1,q2,q3]
      refine callq_st (r:=bl (peekR c [116,117,114,110] r)) (fun _=>by first | (rw[hd]; exact ok43m H paA _ r [116,117,114,110]) | exact ok43m H paA _ r [116,117,114,110]) ?_
      simp -implicitDefEqProofs[h2,h3,h6,h7,outO,hd,q0,q1,q2,q3]
      refine callq_st (r:=bl (peekR c [101,110,100] r)) (fun _=>by first | (rw[hd]; exact ok43m H paA _ r [101,110,100]) | exact ok43m H paA _ r [101,110,100]) ?_
      simp -implicitDefEqProofs[h2,h3,h6,h7,outO,hd,q0,q1,q2,q3]
      refine call_go (RdA.mid H paA _ (ok46 h20 h1 hk) (r:=r) hg) ?_
      simp -implicitDefEqProofs[h2,h3,h6,h7,stageV,outO,stgsO,rws_len StageP.c_len]
      refine⟨by omega,by omega,?_⟩
      refine LI.cong ?_ (fin _ (r) (if_neg (fun h=>by have:=h.2; simp[q0,q1,q2,q3]at this)) (G++[⟨(stageR c orP (r)).1.c,78,0,true⟩]) ?_ ?_ ?_ ?_)
      · simp[outO,stgsO,rws_app,rws]
      all_goals simp[h2,h3,h6,h7]
    · have hd:decide ((l.length:Int)=100)=false:=decide_eq_false (by omega)
      refine callq_go (r:=bl false) (fun h=>by first | (rw[hd]at h; cases h) | cases h) ?_
      simp -implicitDefEqProofs[h2,h3,h6,h7,outO,hd]
      refine callq_go (r:=bl false) (fun h=>by first | (rw[hd]at h; cases h) | cases h) ?_
      simp -implicitDefEqProofs[h2,h3,h6,h7,outO,hd]
      refine callq_go (r:=bl false) (fun h=>by first | (rw[hd]at h; cases h) | cases h) ?_
      simp -implicitDefEqProofs[h2,h3,h6,h7,outO,hd]
      refine callq_go (r:=bl false) (fun h=>by first | (rw[hd]at h; cases h) | cases h) ?_
      simp -implicitDefEqProofs[h2,h3,h6,h7,outO,hd]
      refine call_go (RdA.mid H paA _ (ok46 h20 h1 hk) (r:=r) hg) ?_
      simp -implicitDefEqProofs[h2,h3,h6,h7,stageV,outO,stgsO,rws_len StageP.c_len]
      refine⟨by omega,by omega,?_⟩
      refine LI.cong ?_ (fin _ (r) (if_neg (fun h=>h100 h.1)) (G++[⟨(stageR c orP (r)).1.c,78,0,true⟩]) ?_ ?_ ?_ ?_)
      · simp[outO,stgsO,rws_app,rws]
      all_goals simp[h2,h3,h6,h7]
  · rw[if_neg hp]at hr
    exact out_ok l r G env hp hr h2 h3 h6 h7
end
end Go.Proofs.YtmkdpmfhlfhjkaaGreatDoor
namespace Go.Proofs.YtmkdpmfhlfhjkaaGreatDoor
open Go.Ab
def rulesV (r:RulesP):SV:=.agg r.c
theorem zR_le (e p:Int):SV.le (.tup [.agg [st (B []),i64 0,nl,nl],.agg [i64 e,i64 p]]) (.tup [rulesV zRules,fltV e p]) :=
 le_tup (leL.cons (le_agg (leL.cons (SV.le.refl _) (leL.cons (SV.le.refl _) (leL.cons le_nil (leL.cons le_nil leL.nil))))) (leL.cons (SV.le.refl _) leL.nil))
theorem scan_zero (l:List UInt8) (h:(scanG l).2.1=0):(scanG l).2.2=0:=by
 unfold scanG at h ⊢
 split at h
 · exact absurd h (by decide)
 · rename_i h1
   rw[if_neg h1]
   split at h
   · rename_i h2; rw[if_pos h2]
   · rename_i h2; exact absurd h h2
section
variable {H:List AO} {l:List UInt8}
theorem cv_rules (hcl:closed H) {nm:List UInt8} {pl:Int} {vs:List VarP} {ss:List StageP} {x y z w:AO} {G:List AO} :
 Cv H.length (.tup [.agg [st (B nm),i64 pl,.own (H.length+5) 0 vs.length 3 vs.length,.own (H.length+6) 0 ss.length 12 ss.length],.agg [i64 0,i64 0]]) (H++(x::y::z::w::outO H.length nm pl vs.length ss.length::varsO vs::stgsO ss::G)) (.tup [rulesV ⟨nm,pl,vs,ss⟩,fltV 0 0]) H:=by
 have e:(rws VarP.c vs).take (vs.length*3)=rws VarP.c vs:=List.take_of_length_le (by rw[rws_len VarP.c_len]; exact Nat.le_refl _)
 have e2:(rws StageP.c ss).take (ss.length*12)=rws StageP.c ss:=List.take_of_length_le (by rw[rws_len StageP.c_len]; exact Nat.le_refl _)
 refine cv_fz 4 hcl rfl ?_
 simp[rulesV,RulesP.c,fltV,varsO,stgsO,rws_len VarP.c_len,rws_len StageP.c_len,e,e2]
theorem parse_t13 (hcl:closed H) {c:Cx} {r:Rd} {nm:List UInt8} {pl:Int} {vs:List VarP} {ss:List StageP} {G:List AO} {env:Env} {res:RulesP×Int×Int}
 (hres:(if r.e≠0 then(zRules,r.e,r.p)else(⟨nm,pl,vs,ss⟩,0,0))=res)
 (h2:env.get 2=.ptr (.own H.length 0 0 0 0) 0) (h3:env.get 3=.ptr (.own (H.length+1) 0 0 0 0) 0) (h6:env.get 6=rp (H.length+3)) (h7:env.get 7=.ptr (.own (H.length+4) 0 0 0 0) 0) :
 X Tryz.prog Tryz.f15.ntmps drawB (IC.tl 13 i15) env (H++(paA++rdO c r::paL H.length nm pl vs ss G)) (Fin H.length r15 (.ret (.tup [rulesV res.1,fltV res.2.1 res.2.2])) H):=by
 simp -implicitDefEqProofs[IC.tl,i15,r15,h2,h3,h6,h7]
 refine call_go (ok36m H paA _ r) ?_
 by_cases he:r.e=0
 · rw[if_neg (by simp[he])]at hres
   subst hres
   simp -implicitDefEqProofs[h2,h3,h6,h7,he,outO,zR,flO]
   exact cv_rules hcl
 · rw[if_pos he]at hres
   subst hres
   simp -implicitDefEqProofs[h2,h3,h6,h7,he,rp,rdO,zR,flO]
   exact⟨rfl,Cv.le (cv_fz (n0:=H.length) (r1:=.tup [.agg [st (B []),i64 0,nl,nl],.agg [i64 r.e,i64 r.p]]) (r:=.tup [.agg [st (B []),i64 0,nl,nl],.agg [i64 r.e,i64 r.p]]) 3 hcl rfl (by simp)) (zR_le r.e r.p)⟩
theorem parse_t11 (hcl:closed H) {c:Cx} {r:Rd} {nm:List UInt8} {pl:Int} (h20:c.ts.length≤20000) {d:Nat} {orP:Rd->Ex×Rd} (h1:RdC c 34 orP d) (hk:Kp c d orP) (hst:Still orP) (hg:Gd c d r) {env:Env} {res:RulesP×Int×Int}
 (hres:(fun(s:List VarP×Rd)=>(fun(t:List StageP×Rd)=>if t.2.e≠0 then(zRules,t.2.e,t.2.p)else((⟨nm,pl,s.1,t.1⟩:RulesP),(0:Int),(0:Int))) (stagesL c orP (c.ts.length+1) [] s.2)) (varsL c c.ts.length [] r)=res)
 (h2:env.get 2=.ptr (.own H.length 0 0 0 0) 0) (h3:env.get 3=.ptr (.own (H.length+1) 0 0 0 0) 0) (h6:env.get 6=rp (H.length+3)) (h7:env.get 7=.ptr (.own (H.length+4) 0 0 0 0) 0) :
 X Tryz.prog Tryz.f15.ntmps drawB (IC.tl 11 i15) env (H++(paA++rdO c r::paL H.length nm pl [] [] [])) (Fin H.length r15 (.ret (.tup [rulesV res.1,fltV res.2.1 res.2.2])) H):=by
 have tail:∀ (r:Rd) (vs:List VarP) (ss:List StageP) (G:List AO) (env:Env),(if r.e≠0 then(zRules,r.e,r.p)else(⟨nm,pl,vs,ss⟩,0,0))=res->env.get 2=.ptr (.own H.length 0 0 0 0) 0->env.get 3=.ptr (.own (H.length+1) 0 0 0 0) 0->env.get 6=rp (H.length+3)->env.get 7=.ptr (.own (H.length+4) 0 0 0 0) 0->_ :=
  fun r vs ss G env hres h2 h3 h6 h7=>parse_t13 (c:=c) (r:=r) (G:=G) hcl hres h2 h3 h6 h7
 rw[show IC.tl 11 i15=.seq (IC.nth 11 i15) (.seq (IC.nth 12 i15) (IC.tl 13 i15))from rfl]
 generalize IC.tl 13 i15=t13 at tail ⊢
 simp -implicitDefEqProofs[IC.nth,i15,h2,h3,h6,h7]
 obtain⟨k1,k2⟩:=varsL_keep (c:=c) (d:=d) c.ts.length [] r hg
 generalize hv:varsL c c.ts.length [] r=v at hres k1
 refine loop15_0 (nm:=nm) (pl:=pl) h20 (d:=d) (res:=v) (fun env G h2 h3 h6 h7 => ?_) c.ts.length [] r [] env (by omega) (Nat.zero_le _) hv hg h2 h3 h6 h7
 simp -implicitDefEqProofs
 dsimp only at hres
 generalize hs:stagesL c orP (c.ts.length+1) [] v.2=s at hres
 refine loop15_1 (nm:=nm) (pl:=pl) (vs:=v.1) h20 h1 hk hst (res:=s) (fun env G h2 h3 h6 h7 => ?_) (c.ts.length+1) [] v.2 G env (fun _=>by omega) (Nat.zero_le _) hs k1 h2 h3 h6 h7
 simp -implicitDefEqProofs
 exact tail s.2 v.1 s.1 G env hres h2 h3 h6 h7
theorem ok15 (hl:l.length<4611686018427387904):Ok Tryz.prog 15 [st (B l)] H (.ret (.tup [rulesV (parseR l).1,fltV (parseR l).2.1 (parseR l).2.2])) H:=by
 refine ok_WI hm Tryz.func15 c15 (by simp) fun hcl => ?_
 have hlen:=scan_len l
 have hz0:=scan_zero l
 generalize hp:parseR l=res
 unfold parseR at hp
 have h33:=fun H=>ok33 (H:=H) hl
 generalize scanG l=s at hlen hp h33 hz0
 obtain⟨ts,fe,fp⟩:=s
 rw[show i15=.seq (IC.nth 0 i15) (.seq (IC.nth 1 i15) (.seq (IC.nth 2 i15) (IC.tl 3 i15)))from rfl]
 by_cases hs:fe=0
 · subst hs
   have hz:fp=0:=hz0 rfl
   subst hz
   rw[if_neg (by simp)]at hp
   have h20:ts.length≤20000:=hlen
   have hlc:ts.length<4611686018427387904:=by omega
   have hg:Gd ⟨ts,l.length⟩ 40 ⟨0,0,0,0⟩:=⟨Nat.zero_le _,.inr rfl⟩
   have hor:RdC ⟨ts,l.length⟩ 34 (orT ⟨ts,l.length⟩) 40:=(ok_lv hlc 40 (by omega)).2.2
   have hk:Kp ⟨ts,l.length⟩ 40 (orT ⟨ts,l.length⟩):=(lv_keep ⟨ts,l.length⟩ 40 (by omega)).2.2
   have hst:Still (orT ⟨ts,l.length⟩):=or_still ⟨ts,l.length⟩ 40
   dsimp only at hp
   generalize hc:(⟨ts,l.length⟩:Cx)=c at hg hor hk hst hp
   have hcts:c.ts=ts:=by rw[←hc]
   have hcen:c.en=l.length:=by rw[←hc]
   rw[←hcts]at h20 hlc
   unfold parseT at hp
   dsimp only at hp
   have g1:=(t2_keep (c:=c) (d:=40) [103,97,109,101] hg).1
   have g2:=(word_keep _ g1).1
   have g3:=(t2_keep (c:=c) (d:=40) [59] g2).1
   have g4:=(t2_keep (c:=c) (d:=40) [112,108,97,121,101,114,115] g3).1
   have g5:=(num_keep _ g4).1
   have g6:=(t2_keep (c:=c) (d:=40) [59] g5).1
   have tail:∀ env:Env,env.get 2=.ptr (.own H.length 0 0 0 0) 0->env.get 3=.ptr (.own (H.length+1) 0 0 0 0) 0->env.get 6=rp (H.length+3)->env.get 7=.ptr (.own (H.length+4) 0 0 0 0) 0->_ :=
    fun env h2 h3 h6 h7=>parse_t11 hcl (env:=env) (nm:=(wordR c (t2 c [103,97,109,101] ⟨0,0,0,0⟩)).1) (pl:=(nmR c (t2 c [112,108,97,121,101,114,115] (t2 c [59] (wordR c (t2 c [103,97,109,101] ⟨0,0,0,0⟩)).2))).1) (res:=res) h20 hor hk hst g6 hp h2 h3 h6 h7
   rw[show IC.tl 3 i15=.seq (IC.nth 3 i15) (.seq (IC.nth 4 i15) (.seq (IC.nth 5 i15) (.seq (IC.nth 6 i15) (.seq (IC.nth 7 i15) (.seq (IC.nth 8 i15) (.seq (IC.nth 9 i15) (.seq (IC.nth 10 i15) (IC.tl 11 i15))))))))from rfl]
   generalize IC.tl 11 i15=t11 at tail ⊢
   refine WI.seq (draw_ok hm) ?_
   simp -implicitDefEqProofs[IC.nth,i15]
   refine WI.seq (draw_ok hm) ?_
   simp -implicitDefEqProofs[IC.nth,i15]
   refine call_go (h33 _) ?_
   simp -implicitDefEqProofs[fltV,tksV]
   refine WI.seq (draw_ok hm) ?_
   simp -implicitDefEqProofs[IC.nth,i15]
   refine WI.seq (draw_ok hm) ?_
   simp -implicitDefEqProofs[IC.nth,i15]
   refine WI.seq (draw_ok hm) ?_
   simp -implicitDefEqProofs[IC.nth,i15]
   refine WI.tell (Tell.own0 (j:=H.length+4) (p:=2) (o:=⟨[st (B []),i64 0,nl,nl],36,0,true⟩) (by simp) rfl rfl 75 3) ?_
   refine WI.tell (Tell.own0 (j:=H.length+4) (p:=3) (o:=⟨[st (B []),i64 0,.own (H.length+5) 0 0 3 0,nl],36,0,true⟩) (by simp) rfl rfl 78 12) ?_
   refine WI.cong (H':=H++(paA++rdO c ⟨0,0,0,0⟩::paL H.length [] 0 [] [] [])) ?_ ?_
   · simp[zR,flO,rdO,outO,varsO,stgsO,rws,hcts,hcen,tksV]
   refine WI.of_X (draw_ok hm) ?_
   simp -implicitDefEqProofs
   refine call_go (ok40m H paA _ _ hlc [103,97,109,101]) ?_
   simp -implicitDefEqProofs
   refine call_go (ok41m H paA _ _ hlc) ?_
   simp -implicitDefEqProofs[outO]
   refine call_go (ok40m H paA _ _ hlc [59]) ?_
   simp -implicitDefEqProofs
   refine call_go (ok40m H paA _ _ hlc [112,108,97,121,101,114,115]) ?_
   simp -implicitDefEqProofs
   refine call_go (ok42m H paA _ _ hlc) ?_
   simp -implicitDefEqProofs
   refine call_go (ok40m H paA _ _ hlc [59]) ?_
   simp -implicitDefEqProofs
   exact tail _ (by simp) (by simp) (by simp[rp]) (by simp)
 · rw[if_pos (by simpa using hs)]at hp
   subst hp
   refine WI.of_X (draw_ok hm) ?_
   generalize IC.tl 3 i15=t3
   simp -implicitDefEqProofs[IC.nth,i15]
   refine call_go (h33 _) ?_
   simp -implicitDefEqProofs[fltV,hs,tksV,r15]
   exact⟨rfl,Cv.le (cv_fz (n0:=H.length) (r1:=.tup [.agg [st (B []),i64 0,nl,nl],.agg [i64 fe,i64 fp]]) (r:=.tup [.agg [st (B []),i64 0,nl,nl],.agg [i64 fe,i64 fp]]) 3 hcl rfl (by simp)) (zR_le fe fp)⟩
end
end Go.Proofs.YtmkdpmfhlfhjkaaGreatDoor
namespace Go.Proofs.YtmkdpmfhlfhjkaaGreatDoor
open Go.Ab
section
variable {c:Cx} {r:Rd}
theorem begR_off (hb:begR c r=false):isNum c r=false∧freeR c r=false∧peekR c [110,111,116] r=false∧peekR c [45] r=false∧peekR c [40] r=false∧peekR c [109,105,110] r=false∧peekR c [109,97,120] r=false∧peekR c [105,102] r=false:=by
 unfold begR at hb
 simpa[Bool.or_eq_false_iff,and_assoc]using hb
theorem binF_bad {ops:List (List UInt8×Int)} {F:Rd->Ex×Rd} (h:(F r).2.e≠0):(binF c ops F r).2=(F r).2:=by
 unfold binF; rw[binL_bad h]
theorem or_nb (he:r.e=0) (hb:begR c r=false) (d:Nat):(orOf c (lv c d) r).2=failR c 11 r:=by
 obtain⟨h1,h2,h3,h4,h5,h6,h7,h8⟩:=begR_off hb
 have hfe:(failR c 11 r).e≠0:=by simp[failR,he]
 have hf:∀ orP facP,(facG c orP facP r).2=failR c 11 r:=by
  intro orP facP
  unfold facG
  have hw:wrdO.find? (fun w=>peekR c w.1 r)=none:=by simp[wrdO,h6,h7,h8]
  rw[if_neg (by simp[he]),if_neg (by simp[h2]),if_neg (by simp[h4]),if_neg (by simp[h5]),hw]
  simp[nmR,h1]
 have hb2:∀ ops (F:Rd->Ex×Rd),(F r).2=failR c 11 r->(binF c ops F r).2=failR c 11 r:=fun ops F h=>by
  rw[binF_bad (by rw[h]; exact hfe),h]
 have hn:∀ orP facP ntP,(notG c (cmpOf c (facG c orP facP)) ntP r).2=failR c 11 r:=by
  intro orP facP ntP
  unfold notG
  rw[if_neg (by simp[h3])]
  unfold cmpOf cmpF
  have h9:=hb2 sumO _ (hb2 mulO _ (hf orP facP))
  rw[h9,opAt_bad hfe]
  exact h9
 have hnt:((lv c d).nt r).2=failR c 11 r:=by
  cases d with
  | zero=>exact hn _ _ _
  | succ d=>exact hn _ _ _
 exact hb2 orO _ (hb2 andO _ hnt)
def wordF (c:Cx) (full:Bool) (r:Rd):List UInt8×Rd:=wordR c (if full=true∧freeR c r=true then failR c 12 r else r)
def numF (c:Cx) (full:Bool) (r:Rd):Int×Rd:=nmR c (if full=true∧isNum c r=true then failR c 12 r else r)
end
theorem pd_call {α:Type} {c:Cx} {j k:Nat} {args:List SV} {G:List AO} {f:α->SV} {q:α×Rd} {K:Out->List AO->Prop} (h:OkP Tryz.prog k args G (PdV c G j f q))
 (hok:q.2.e=0->K (.ret (f q.1)) (G.set j (pdO c q.2))) (hbad:q.2.e≠0->∀ H',Keep G [j] H'->K (.pan (fltI q.2.e q.2.p)) H'):CallTo Tryz.prog (.fn (.func k) [] []) args G K:=by
 refine call_goP h ?_
 intro o H' hp
 unfold PdV at hp
 by_cases he:q.2.e=0
 · rw[if_pos he]at hp; obtain⟨rfl,rfl⟩:=hp; exact hok he
 · rw[if_neg he]at hp; obtain⟨rfl,hk⟩:=hp; exact hbad he H' hk
theorem PdV.pan {α:Type} {c:Cx} {j:Nat} {f:α->SV} {G H':List AO} {q:α×Rd} (he:q.2.e≠0) (h:Keep G [j] H'):PdV c G j f q (.pan (fltI q.2.e q.2.p)) H':=by
 unfold PdV; rw[if_neg he]; exact⟨rfl,h⟩
theorem PdV.ret {α:Type} {c:Cx} {j:Nat} {f:α->SV} {G H':List AO} {q:α×Rd} (he:q.2.e=0) (h:H'=G.set j (pdO c q.2)):PdV c G j f q (.ret (f q.1)) H':=by
 unfold PdV; rw[if_pos he]; exact⟨rfl,h⟩
theorem PdV.fail {α:Type} {c:Cx} {j:Nat} {f:α->SV} {G H':List AO} {q:α×Rd} {r:Rd} {e:Int} (hr:r.e=0) (he:e≠0) (hq:q.2=failR c e r) (h:Keep G [j] H'):PdV c G j f q (.pan (fltI e (hereR c r))) H':=by
 have f1:(failR c e r).e=e∧(failR c e r).p=hereR c r:=by simp[failR,hr]
 have:=PdV.pan (c:=c) (f:=f) (q:=q) (by rw[hq,f1.1]; exact he) h
 rwa [hq,f1.1,f1.2]at this
theorem PdV.got {α:Type} {c:Cx} {j:Nat} {f:α->SV} {G H':List AO} {q:α×Rd} {x:α} {r:Rd} {o:Out} (he:r.e=0) (hq:q=(x,r)) (ho:o=.ret (f x)) (h:H'=G.set j (pdO c r)):PdV c G j f q o H':=by
 subst hq ho; exact PdV.ret (q:=(x,r)) he h
theorem wordF_full {c:Cx} {r:Rd} (he:r.e=0) (hp:freeR c r=true):(wordF c true r).2=failR c 12 r:=by
 have hb:(failR c 12 r).e≠0:=by simp[failR,he]
 unfold wordF
 rw[if_pos ⟨rfl,hp⟩]
 unfold wordR
 rw[free_bad hb,fail_bad hb]; rfl
theorem wordF_got {c:Cx} {r:Rd} (hp:freeR c r=true):wordF c false r=((tkR c r).tx,nextR r):=by
 have hlt:=(tokB_lt hp).2.1
 unfold wordF
 rw[if_neg (by simp)]
 unfold wordR
 rw[if_pos hp]; simp[tkR,hlt,List.getD]
theorem wordF_no {c:Cx} {r:Rd} (full:Bool) (hp:freeR c r=false):(wordF c full r).2=failR c 11 r:=by
 unfold wordF
 rw[if_neg (by simp[hp])]
 unfold wordR
 rw[hp]; rfl
theorem numF_full {c:Cx} {r:Rd} (he:r.e=0) (hp:isNum c r=true):(numF c true r).2=failR c 12 r:=by
 have hb:(failR c 12 r).e≠0:=by simp[failR,he]
 unfold numF
 rw[if_pos ⟨rfl,hp⟩]
 unfold nmR
 rw[num_bad hb,fail_bad hb]; rfl
theorem numF_got {c:Cx} {r:Rd} (hp:isNum c r=true):numF c false r=((tkR c r).n,nextR r):=by
 have hlt:=(tokB_lt hp).2.1
 unfold numF
 rw[if_neg (by simp)]
 unfold nmR
 rw[if_pos hp]; simp[tkR,hlt,List.getD]
theorem numF_no {c:Cx} {r:Rd} (full:Bool) (hp:isNum c r=false):(numF c full r).2=failR c 11 r:=by
 unfold numF
 rw[if_neg (by simp[hp])]
 unfold nmR
 rw[hp]; rfl
def exN (l:List Ex):SV:=if l=[]then nl else exS l
def inN (l:List Int):SV:=if l=[]then nl else .slc (ints l) l.length
section
variable {H:List AO} {c:Cx} {r:Rd} {j:Nat}
theorem ok88 (ho:H[j]? = some (pdO c r)) (hl:r.a<4611686018427387904) (he:r.e=0) (full:Bool):OkP Tryz.prog 88 [rp j,bl full] H (PdV c H j (fun s=>st (B s)) (wordF c full r)):=by
 have hj:=getElem?_lt ho
 have h92:=ok92 ho he
 have h140:=ok140 ho hl
 have h11:=ok79 ho 11
 have h12:=ok79 ho 12
 refine okP_fn hm Tryz.func88 c88 (by simp[rp,SV.under,hj]) fun hcl => ?_
 simp -implicitDefEqProofs[i88,r88,rp]
 refine call_go (by simpa[rp]using h92) ?_
 by_cases hp:freeR c r=true
 · cases full with
   | true =>
    simp -implicitDefEqProofs[hp]
    refine call_go (by simpa[rp]using h12) ?_
    simp -implicitDefEqProofs
    exact⟨_,_,PdV.fail he (by decide) (wordF_full he hp) (Keep.refl _ _),cv_id⟩
   | false =>
    simp -implicitDefEqProofs[hp]
    refine call_go (by simpa[rp]using h140) ?_
    simp -implicitDefEqProofs[Tok.v,Tok.c]
    exact⟨_,_,PdV.got (r:=nextR r) he (wordF_got hp) rfl rfl,cv_id⟩
 · rw[Bool.not_eq_true]at hp
   simp -implicitDefEqProofs[hp]
   refine call_go (by simpa[rp]using h11) ?_
   simp -implicitDefEqProofs
   exact⟨_,_,PdV.fail he (by decide) (wordF_no full hp) (Keep.refl _ _),cv_id⟩
theorem ok89 (ho:H[j]? = some (pdO c r)) (hl:r.a<4611686018427387904) (he:r.e=0) (full:Bool):OkP Tryz.prog 89 [rp j,bl full] H (PdV c H j i64 (numF c full r)):=by
 have hj:=getElem?_lt ho
 have h139:=ok139 ho
 have h140:=ok140 ho hl
 have h11:=ok79 ho 11
 have h12:=ok79 ho 12
 have hnt:=num_tk (c:=c) he
 refine okP_fn hm Tryz.func89 c89 (by simp[rp,SV.under,hj]) fun hcl => ?_
 simp -implicitDefEqProofs[i89,r89,rp]
 refine call_go (by simpa[rp]using h139) ?_
 by_cases hp:isNum c r=true
 · have hk:(tkR c r).k=2:=by rw[hp]at hnt; exact of_decide_eq_true hnt.symm
   cases full with
   | true =>
    simp -implicitDefEqProofs[Tok.v,Tok.c,hk]
    refine call_go (by simpa[rp]using h12) ?_
    simp -implicitDefEqProofs
    exact⟨_,_,PdV.fail he (by decide) (numF_full he hp) (Keep.refl _ _),cv_id⟩
   | false =>
    simp -implicitDefEqProofs[Tok.v,Tok.c,hk]
    refine call_go (by simpa[rp]using h140) ?_
    simp -implicitDefEqProofs[Tok.v,Tok.c]
    exact⟨_,_,PdV.got (r:=nextR r) he (numF_got hp) rfl rfl,cv_id⟩
 · rw[Bool.not_eq_true]at hp
   have hk:¬ (tkR c r).k=2:=by rw[hp]at hnt; exact of_decide_eq_false hnt.symm
   simp -implicitDefEqProofs[Tok.v,Tok.c,hk]
   refine call_go (by simpa[rp]using h11) ?_
   simp -implicitDefEqProofs
   exact⟨_,_,PdV.fail he (by decide) (numF_no full hp) (Keep.refl _ _),cv_id⟩
theorem t2_acc {s:List UInt8} (hp:peekR c s r=true):t2 c s r=nextR r:=by simp[t2,takeR,hp]
theorem ok181 (hn:NumT c) {d:Nat} {F:Rd->Ex×Rd} (hF:PdC c 32 [] F d) {s:List UInt8} (hs:wrdB s=true) (ho:H[j]? = some (pdO c r)) (hl:c.ts.length<4611686018427387904) (hg:Gd c d r) (he:r.e=0) :
 OkP Tryz.prog 181 [rp j,st (B s),.fn (.func 32) [rp j] []] H (PdV c H j exN (optR c F s r)):=by
 have hj:=getElem?_lt ho
 have ha:=hg.a
 have h90:=ok90 hn ho (by omega) he hs
 refine okP_fn hm Tryz.func181 c181 (by simp[rp,SV.under,SV.underL,hj]) fun hcl => ?_
 simp -implicitDefEqProofs[i181,r181,rp]
 refine call_go (by simpa[rp]using h90) ?_
 unfold accR
 by_cases hp:peekR c s r=true
 · have hg2:=hg.next (peek_lt hp)
   have hc:=hF (G:=H.set j (pdO c (nextR r))) (j:=j) (r:=nextR r) (by simp[hj]) hg2 he
   have hopt:optR c F s r=([(F (nextR r)).1],(F (nextR r)).2):=by unfold optR; rw[if_pos hp,t2_acc hp]
   rw[hopt]
   simp -implicitDefEqProofs[hp]
   refine call_ofP (a:=[rp j]) (b:=[]) (by simpa[rp]using hc) ?_
   intro o H' hq
   unfold PdP PdV at hq
   generalize F (nextR r)=q at hq ⊢
   by_cases he2:q.2.e=0
   · rw[if_pos he2]at hq
     obtain⟨rfl,rfl⟩:=hq
     rw[List.set_set]
     simp -implicitDefEqProofs[Ex.v]
     refine⟨_,_,PdV.ret (q:=([q.1],q.2)) he2 rfl,?_⟩
     refine cv_fz 3 (closed_pd (c:=c) (a:=q.2.a) (v:=q.2.v) hcl) (by simp) ?_
     simp[exN,exS,Ex.cL,Ex.v]
   · rw[if_neg he2]at hq
     obtain⟨rfl,hk⟩:=hq
     simp -implicitDefEqProofs
     exact⟨_,_,PdV.pan (q:=([q.1],q.2)) he2 ((Keep.set (by simp) _).trans hk),cv_id⟩
 · have hopt:optR c F s r=([],r):=by unfold optR; rw[if_neg hp]
   rw[hopt]
   simp -implicitDefEqProofs[hp]
   refine⟨_,_,PdV.got (r:=r) he rfl (o:=.ret nl) rfl (set_same ho).symm,?_⟩
   rw[set_same ho]
   exact cv_id
def wdN (l:List (List UInt8)):SV:=if l=[]then nl else .slc (wds l) l.length
theorem ok202 (hn:NumT c) {F:Rd->List UInt8×Rd} {f:SV} (hvd:f.vd=true) (hug:f.ug=f) (hfu:f.under H.length=true) {s:List UInt8} (hs:wrdB s=true) (ho:H[j]? = some (pdO c r)) (hl:c.ts.length<4611686018427387904) (ha:r.a≤c.ts.length) (he:r.e=0)
 (hF:peekR c s r=true->OkCP Tryz.prog f [] (H.set j (pdO c (nextR r))) (PdV c (H.set j (pdO c (nextR r))) j (fun s=>st (B s)) (F (nextR r)))) :
 OkP Tryz.prog 202 [rp j,st (B s),f] H (PdV c H j wdN (if peekR c s r=true then([(F (nextR r)).1],(F (nextR r)).2)else([],r))):=by
 have hj:=getElem?_lt ho
 have hopt1:peekR c s r=true->(if peekR c s r=true then([(F (nextR r)).1],(F (nextR r)).2)else(([],r):List (List UInt8)×Rd))=([(F (nextR r)).1],(F (nextR r)).2):=fun h=>if_pos h
 have hopt2:¬ peekR c s r=true->(if peekR c s r=true then([(F (nextR r)).1],(F (nextR r)).2)else(([],r):List (List UInt8)×Rd))=([],r):=fun h=>if_neg h
 generalize (if peekR c s r=true then([(F (nextR r)).1],(F (nextR r)).2)else(([],r):List (List UInt8)×Rd))=res at hopt1 hopt2 ⊢
 have h90:=ok90 hn ho (by omega) he hs
 refine okP_fn hm Tryz.func202 c202 (by simp[rp,SV.under,SV.underL,hj,hfu]) fun hcl => ?_
 simp -implicitDefEqProofs[i202,r202,rp]
 refine call_go (by simpa[rp]using h90) ?_
 unfold accR
 by_cases hp:peekR c s r=true
 · have hc:=hF hp
   rw[hopt1 hp]
   clear hopt1 hopt2
   simp -implicitDefEqProofs[hp]
   refine call_cP hc ?_
   intro o H' hq
   unfold PdV at hq
   generalize F (nextR r)=q at hq ⊢
   by_cases he2:q.2.e=0
   · rw[if_pos he2]at hq
     obtain⟨rfl,rfl⟩:=hq
     rw[List.set_set]
     simp -implicitDefEqProofs
     refine⟨_,_,PdV.ret (q:=([q.1],q.2)) he2 rfl,?_⟩
     refine cv_fz 3 (closed_pd (c:=c) (a:=q.2.a) (v:=q.2.v) hcl) (by simp) ?_
     simp[wdN,wds]
   · rw[if_neg he2]at hq
     obtain⟨rfl,hk⟩:=hq
     simp -implicitDefEqProofs
     exact⟨_,_,PdV.pan (q:=([q.1],q.2)) he2 ((Keep.set (by simp) _).trans hk),cv_id⟩
 · rw[hopt2 hp]
   simp -implicitDefEqProofs[hp]
   refine⟨_,_,PdV.got (r:=r) he rfl (o:=.ret nl) rfl (set_same ho).symm,?_⟩
   rw[set_same ho]
   exact cv_id
theorem ok183 (hn:NumT c) (ho:H[j]? = some (pdO c r)) (he:r.e=0):Ok Tryz.prog 183 [rp j] H (.ret (bl (begR c r))) H:=by
 have hj:=getElem?_lt ho
 have h92:=ok92 ho he
 have h139:=ok139 ho
 have hnt:=num_tk (c:=c) he
 have h93:=ok93 (H:=H++[⟨[st (B [110,111,116]),st (B [45]),st (B [40]),st (B [109,105,110]),st (B [109,97,120]),st (B [105,102])],9,0,true⟩]) (c:=c) (r:=r) (j:=j) (by rw[List.getElem?_append_left hj]; exact ho) (x:=.own H.length 0 6 1 0) (l:=[[110,111,116],[45],[40],[109,105,110],[109,97,120],[105,102]]) (IsS.own1 (k:=0) rfl rfl) (by simp)
 have hb:begR c r=(freeR c r||isNum c r||decide ((tkR c r).tx∈[[110,111,116],[45],[40],[109,105,110],[109,97,120],[105,102]])):=by
  unfold begR
  rw[peek_tk hn (s:=[110,111,116]) rfl he,peek_tk hn (s:=[45]) rfl he,peek_tk hn (s:=[40]) rfl he,peek_tk hn (s:=[109,105,110]) rfl he,peek_tk hn (s:=[109,97,120]) rfl he,peek_tk hn (s:=[105,102]) rfl he]
  rw[Bool.eq_iff_iff]
  simp[or_assoc]
  constructor
  · rintro(h | h | h)<;>simp[h]
  · rintro(h | h | h)<;>simp[h]
 rw[hb]
 refine ok_fn hm Tryz.func183 c183 (by simp[rp,SV.under,hj]) fun hcl => ?_
 simp -implicitDefEqProofs[i183,r183,rp]
 refine call_go (by simpa[rp]using h92) ?_
 by_cases hf:freeR c r=true
 · simp -implicitDefEqProofs[hf]
   refine callq_off _ _ _ _ ?_
   simp -implicitDefEqProofs[hf]
   refine callq_off _ _ _ _ ?_
   simp -implicitDefEqProofs[hf]
   exact cv_id
 · rw[Bool.not_eq_true]at hf
   simp -implicitDefEqProofs[hf]
   refine callq_st (r:=(tkR c r).v) (fun _=>by simpa[rp,SV.strip]using h139) ?_
   by_cases hk:isNum c r=true
   · have hk2:(tkR c r).k=2:=by rw[hk]at hnt; exact of_decide_eq_true hnt.symm
     simp -implicitDefEqProofs[hf,hk,Tok.v,Tok.c,hk2]
     refine callq_off _ _ _ _ ?_
     simp -implicitDefEqProofs[hf,hk,Tok.v,Tok.c,hk2]
     exact cv_id
   · rw[Bool.not_eq_true]at hk
     have hk2:¬ (tkR c r).k=2:=by rw[hk]at hnt; exact of_decide_eq_false hnt.symm
     simp -implicitDefEqProofs[hf,hk,Tok.v,Tok.c,hk2]
     refine callq_st (r:=bl (decide ((tkR c r).tx∈[[110,111,116],[45],[40],[109,105,110],[109,97,120],[105,102]]))) (fun _=>by simpa[rp,SV.strip]using h93) ?_
     simp -implicitDefEqProofs[hf,hk,Tok.v,Tok.c,hk2]
     exact cv_fz 2 hcl rfl rfl
end
end Go.Proofs.YtmkdpmfhlfhjkaaGreatDoor
namespace Go.Proofs.YtmkdpmfhlfhjkaaGreatDoor
open Go.Ab
def w2 (H:List AO) (j k:Nat) (o p:AO):List AO:=(H.set j o).set k p
structure J2 (H:List AO) (j k:Nat):Prop where
 lj:j<H.length
 lk:k<H.length
 ne:j≠k
section
variable {H:List AO} {j k:Nat} {o p:AO}
@[simp] theorem w2_len:(w2 H j k o p).length=H.length:=by simp[w2]
theorem w2_j (h:J2 H j k) (L:List AO):(w2 H j k o p++L)[j]? = some o:=by
 rw[List.getElem?_append_left (by simpa using h.lj),w2,List.getElem?_set_ne (Ne.symm h.ne),List.getElem?_set_self h.lj]
theorem w2_k (h:J2 H j k) (L:List AO):(w2 H j k o p++L)[k]? = some p:=by
 rw[List.getElem?_append_left (by simpa using h.lk),w2,List.getElem?_set_self (by simpa using h.lk)]
theorem w2_setj (h:J2 H j k) (L:List AO) (o':AO):(w2 H j k o p++L).set j o'=w2 H j k o' p++L:=by
 rw[List.set_append_left _ _ (by simpa using h.lj),w2,List.set_comm _ _ (Ne.symm h.ne),List.set_set]; rfl
theorem w2_setk (h:J2 H j k) (L:List AO) (p':AO):(w2 H j k o p++L).set k p'=w2 H j k o p'++L:=by
 rw[List.set_append_left _ _ (by simpa using h.lk),w2,List.set_set]; rfl
theorem w2_ock (h:J2 H j k) (cs:List SV) (T:TypeId) (L:List AO):objCells (w2 H j k o ⟨cs,T,0,true⟩++L) k 0=cs:=objCells_of (o:=⟨cs,T,0,true⟩) (w2_k h L) rfl
theorem w2_sok (h:J2 H j k) (L:List AO) (f:AO->AO):Ab.setObj (w2 H j k o p++L) k f=w2 H j k o (f p)++L:=by
 rw[setObj_some (w2_k h L),w2_setk h]
theorem w2_same (h1:H[j]? = some o) (h2:H[k]? = some p):w2 H j k o p=H:=by
 rw[w2,set_same h1,set_same h2]
@[simp] theorem objCells_w2 (L:List AO) (i ver:Nat):objCells (w2 H j k o p++L) (H.length+i) ver=objCells L i ver:=by
 have:=objCells_new (H:=w2 H j k o p) (L:=L) (k:=i) (ver:=ver); simpa using this
@[simp] theorem setObj_w2 (L:List AO) (i:Nat) (f:AO->AO):Ab.setObj (w2 H j k o p++L) (H.length+i) f=w2 H j k o p++Ab.setObj L i f:=by
 have:=setObj_new (H:=w2 H j k o p) (L:=L) (k:=i) (f:=f); simpa using this
@[simp] theorem objIs_w2 (L:List AO) (i ver:Nat) (T:TypeId) (m:Nat):objIs (w2 H j k o p++L) (H.length+i) ver T m=objIs L i ver T m:=by
 have:=objIs_new (H:=w2 H j k o p) (L:=L) (k:=i) (ver:=ver) (T:=T) (m:=m); simpa using this
theorem Keep.w2 {H' L:List AO} (hJ:J2 H j k) (h:Keep (w2 H j k o p++L) [j] H'):Keep H [j,k] H':=by
 refine⟨Nat.le_trans (by simp) h.len,fun i hi hn => ?_⟩
 simp only[List.mem_cons,List.not_mem_nil,or_false,not_or]at hn
 rw[h.at_ i (by simp; omega) (by simp[hn.1]),List.getElem?_append_left (by simpa using hi),Proofs.YtmkdpmfhlfhjkaaGreatDoor.w2,List.getElem?_set_ne (Ne.symm hn.2),List.getElem?_set_ne (Ne.symm hn.1)]
end
structure Rw (n:Nat) (L:List AO) (x y:SV):Prop where
 cell:x.isCell=true
 ycell:y.isCell=true
 fz:∀ M d,SV.fz n [] (L++M) (d+2) x=y
theorem Rw.app {n:Nat} {L:List AO} {x y:SV} (h:Rw n L x y) (M:List AO):Rw n (L++M) x y:=⟨h.cell,h.ycell,fun M' d=>by rw[List.append_assoc]; exact h.fz _ d⟩
theorem Rw.und {n:Nat} {L:List AO} {x:SV} (h:x.isCell=true) (hu:x.under n=true):Rw n L x x:=⟨h,h,fun M d=>fz_under hu⟩
theorem Rw.own {n q m sz ver T:Nat} {L:List AO} {cells:List SV} (h:L[q]? = some ⟨cells,T,ver,true⟩) (hl:cells.length=m*sz) (hu:SV.underL n cells=true):Rw n L (.own (n+q) 0 m sz ver) (.slc cells m):=by
 refine⟨rfl,rfl,fun M d => ?_⟩
 have hq:(L++M)[q]? = some ⟨cells,T,ver,true⟩:=by rw[List.getElem?_append_left (getElem?_lt h)]; exact h
 have hnu:¬ (SV.own (n+q) 0 m sz ver).under n=true:=by simp[SV.under]
 have e:n+q-n=q:=by omega
 have hp:placeOf [] q=none:=rfl
 rw[SV.fz,if_neg hnu]
 simp only[e,hq,hp]
 rw[if_pos ⟨trivial,trivial,by simp[hl]⟩]
 simp only[List.drop_zero]
 rw[List.take_of_length_le (by omega),map_fz_under _ _ _ _ hu]
def acN (l:List ActP):SV:=if l=[]then nl else .slc (rws ActP.c l) l.length
def StageP.cN (x:StageP):List SV:=[i64 x.k,st (B x.lb),st (B x.nm),i64 x.lo,i64 x.hi,exN x.wt,bl x.all,inN x.seen,exN x.who,acN x.acts,exN x.pays,i64 x.p]
def stO (x:StageP):AO:=⟨StageP.cN x,78,0,true⟩
theorem exN_le (l:List Ex):SV.le (exN l) (exS l):=by
 unfold exN; split
 · rename_i h; subst h; exact le_nil
 · exact SV.le.refl _
theorem inN_le (l:List Int):SV.le (inN l) (.slc (ints l) l.length):=by
 unfold inN; split
 · rename_i h; subst h; exact le_nil
 · exact SV.le.refl _
theorem acN_le (l:List ActP):SV.le (acN l) (.slc (rws ActP.c l) l.length):=by
 unfold acN; split
 · rename_i h; subst h; exact le_nil
 · exact SV.le.refl _
theorem cN_le (x:StageP):leL (StageP.cN x) (StageP.c x) :=
 leL.cons (SV.le.refl _) (leL.cons (SV.le.refl _) (leL.cons (SV.le.refl _) (leL.cons (SV.le.refl _) (leL.cons (SV.le.refl _) (leL.cons (exN_le _) (leL.cons (SV.le.refl _) (leL.cons (inN_le _) (leL.cons (exN_le _) (leL.cons (acN_le _) (leL.cons (exN_le _) (leL.cons (SV.le.refl _) leL.nil)))))))))))
@[simp] theorem exN_cell (l:List Ex):(exN l).isCell=true:=by unfold exN; split<;>rfl
@[simp] theorem inN_cell (l:List Int):(inN l).isCell=true:=by unfold inN; split<;>rfl
@[simp] theorem acN_cell (l:List ActP):(acN l).isCell=true:=by unfold acN; split<;>rfl
@[simp] theorem exN_und (n:Nat) (l:List Ex):(exN l).under n=true:=by unfold exN; split<;>simp[exS,SV.under,Ex.undL]
@[simp] theorem inN_und (n:Nat) (l:List Int):(inN l).under n=true:=by unfold inN; split<;>simp[SV.under,ints_und]
@[simp] theorem acN_und (n:Nat) (l:List ActP):(acN l).under n=true:=by unfold acN; split<;>simp[SV.under,rws_under (ActP.und _)]
@[simp] theorem exN_vd (l:List Ex):(exN l).vd=true:=by unfold exN; split<;>rfl
@[simp] theorem exN_flat (l:List Ex):(exN l).flat=[exN l]:=by unfold exN; split<;>rfl
@[simp] theorem exN_ug (l:List Ex):(exN l).ug=exN l:=by unfold exN; split<;>rfl
def PdS (c:Cx) (G:List AO) (j k:Nat) (q:StageP×Rd) (o:Out) (H':List AO):Prop :=
 if q.2.e=0 then o=.ret (.tup [])∧H'=w2 G j k (pdO c q.2) (stO q.1)else o=.pan (fltI q.2.e q.2.p)∧Keep G [j,k] H'
section
variable {H:List AO} {c:Cx} {r:Rd} {j k:Nat}
theorem PdS.ret {G H':List AO} {q:StageP×Rd} (he:q.2.e=0) (h:H'=w2 G j k (pdO c q.2) (stO q.1)):PdS c G j k q (.ret (.tup [])) H':=by unfold PdS; rw[if_pos he]; exact⟨rfl,h⟩
theorem PdS.pan {G H':List AO} {q:StageP×Rd} (he:q.2.e≠0) (h:Keep G [j,k] H'):PdS c G j k q (.pan (fltI q.2.e q.2.p)) H':=by unfold PdS; rw[if_neg he]; exact⟨rfl,h⟩
theorem w2_hu {p:AO} (hcl:closed H) (hJ:J2 H j k):∀ (i:Nat) (o:AO),i≠k->(w2 H j k (pdO c r) p)[i]? = some o->∀ s∈o.cells,s.under H.length=true:=by
 intro i o hi ho s hs
 rw[w2,List.getElem?_set_ne (Ne.symm hi)]at ho
 by_cases hij:i=j
 · subst hij
   rw[List.getElem?_set_self hJ.lj]at ho
   cases ho
   exact(SV.underL_iff _ _).1 (pd_und _ _ _ _) s hs
 · rw[List.getElem?_set_ne (Ne.symm hij)]at ho
   exact hcl i o ho s hs
theorem st_cv {n0:Nat} (hn0:n0=H.length) (hcl:closed H) (hJ:J2 H j k) {cells:List SV} {x:StageP} {L:List AO} (hfz:cells.map (SV.fz H.length [] L 3)=StageP.cN x) :
 Cv n0 (.tup []) (w2 H j k (pdO c r) ⟨cells,78,0,true⟩++L) (.tup []) (w2 H j k (pdO c r) (stO x)):=by
 have hk0:=w2_k (o:=pdO c r) (p:=⟨cells,78,0,true⟩) hJ []
 rw[List.append_nil]at hk0
 have hz:=Refz.one (H0:=w2 H j k (pdO c r) ⟨cells,78,0,true⟩) (L:=L) (ks:=[]) (d:=3) (j:=k) (o:=⟨cells,78,0,true⟩) (by rw[w2_len]; exact w2_hu hcl hJ) hk0 rfl (by
  rw[w2_len,hfz]
  intro s hs
  simp[StageP.cN]at hs
  rcases hs with rfl | rfl | rfl | rfl | rfl | rfl | rfl | rfl | rfl | rfl | rfl | rfl<;>simp)
 rw[w2_len,hfz]at hz
 have hs:(w2 H j k (pdO c r) ⟨cells,78,0,true⟩).set k ⟨StageP.cN x,78,0,true⟩=w2 H j k (pdO c r) (stO x):=by rw[w2,List.set_set]; rfl
 rw[hs]at hz
 have:=cv_noneM (n0:=n0) (r:=.tup []) (Hx:=w2 H j k (pdO c r) ⟨cells,78,0,true⟩++L) 3 rfl (by rw[w2_len,hn0]; exact Nat.le_refl _) hz
 exact this
theorem accR_eq {s:List UInt8}:accR c s r=if peekR c s r=true then nextR r else r:=rfl
theorem want_at (hn:NumT c) (hct:c.ts.length<4611686018427387904) (hJ:J2 H j k) {p:AO} {L:List AO} {q n T ver:Nat} {l:List (List UInt8)} (hL:L[q]? = some ⟨wds l,T,ver,true⟩) (hn':n=l.length) (hl:l.length<4611686018427387904) (hw:∀ s∈l,wrdB s=true) (he:r.e=0) (ha:r.a≤c.ts.length) :
 OkP Tryz.prog 87 [rp j,.own (H.length+q) 0 n 1 ver] (w2 H j k (pdO c r) p++L) (PdV c (w2 H j k (pdO c r) p++L) j (fun _:Unit=>.tup []) ((),wantR c l r)):=by
 refine ok87 hn (w2_j hJ L) (fun o => ?_) hl hct hw he ha
 have:=own_set (G:=w2 H j k (pdO c r) p) (L:=L) (j:=j) (k:=q) (by simpa using hJ.lj) hL hn' o
 simpa using this
end
end Go.Proofs.YtmkdpmfhlfhjkaaGreatDoor
namespace Go.Proofs.YtmkdpmfhlfhjkaaGreatDoor
open Go.Ab
theorem numF_seen {c:Cx} {r:Rd} (he:r.e=0) (l:List Int):(if l.length=32∧r.a<c.ts.length∧tokB c { r with e:=0 } (fun t=>decide (t.k=2))=true then failR c 12 r else r)=if decide (l.length=32)=true∧isNum c r=true then failR c 12 r else r:=by
 have hr:({ r with e:=0 }:Rd)=r:=by cases r; simp only at he; subst he; rfl
 rw[hr]
 have:(l.length=32∧r.a<c.ts.length∧tokB c r (fun t=>decide (t.k=2))=true)↔(decide (l.length=32)=true∧isNum c r=true):=by
  simp only[decide_eq_true_eq]
  constructor
  · rintro⟨h1,_,h3⟩; exact⟨h1,h3⟩
  · rintro⟨h1,h3⟩; exact⟨h1,(tokB_lt h3).2.1,h3⟩
 simp only[this]
theorem seenL_bad {c:Cx} {n:Nat} {l:List Int} {r:Rd} (h:r.e≠0):seenL c n l r=(l,r):=by
 cases n with
 | zero=>rfl
 | succ n=>rw[seenL,if_neg (by rw[peek_bad h]; decide)]
theorem numF_keep {c:Cx} {d:Nat} {r:Rd} (full:Bool) (h:Gd c d r):Gd c d (numF c full r).2∧r.a≤(numF c full r).2.a:=by
 unfold numF
 obtain⟨h1,h2,_⟩:=full_keep (P:=full=true∧isNum c r=true) h
 obtain⟨h3,h4⟩:=num_keep _ h1
 exact⟨h3,by omega⟩
theorem wordF_keep {c:Cx} {d:Nat} {r:Rd} (full:Bool) (h:Gd c d r):Gd c d (wordF c full r).2∧r.a≤(wordF c full r).2.a:=by
 unfold wordF
 obtain⟨h1,h2,_⟩:=full_keep (P:=full=true∧freeR c r=true) h
 obtain⟨h3,h4⟩:=word_keep _ h1
 exact⟨h3,by omega⟩
theorem numF_off (c:Cx) (r:Rd):numF c false r=nmR c r:=by unfold numF; rw[if_neg (by simp)]
theorem wordF_off (c:Cx) (r:Rd):wordF c false r=wordR c r:=by unfold wordF; rw[if_neg (by simp)]
theorem wantR1 (c:Cx) (s:List UInt8) (r:Rd):wantR c [s] r=t2 c s r:=rfl
theorem wantR2 (c:Cx) (s s':List UInt8) (r:Rd):wantR c [s,s'] r=t2 c s' (t2 c s r):=rfl
theorem ints_snoc (l:List Int) (n:Int):ints (l++[n])=ints l++[i64 n]:=by simp[ints]
section
variable {H:List AO} {c:Cx} {r:Rd} {j k:Nat} {lb nm:List UInt8} {lo hi p:Int} {wt:List Ex}
def dlC (lb nm:List UInt8) (lo hi:Int) (wt:List Ex) (all:Bool) (xS:SV) (p:Int):List SV:=[i64 1,st (B lb),st (B nm),i64 lo,i64 hi,exN wt,bl all,xS,nl,nl,nl,i64 p]
theorem pdeal_t8 (hn:NumT c) (h20:c.ts.length≤20000) (hcl:closed H) (hJ:J2 H j k) (he:r.e=0) (ha:r.a≤c.ts.length) {all:Bool} {seen:List Int} {xS:SV} {L:List AO} (hS:Rw H.length L xS (inN seen)) {env:Env} (h0:env.get 0=rp j) {res:StageP×Rd}
 (hres:(⟨1,lb,nm,lo,hi,wt,all,seen,[],[],[],p⟩,t2 c [59] r)=res) :
 X Tryz.prog Tryz.f147.ntmps drawB (IC.tl 8 i147) env (w2 H j k (pdO c r) ⟨dlC lb nm lo hi wt all xS p,78,0,true⟩++L) (FinP H.length r147 (PdS c H j k res)):=by
 have hct:c.ts.length<4611686018427387904:=by omega
 subst hres
 have hw:=want_at (p:=⟨dlC lb nm lo hi wt all xS p,78,0,true⟩) (L:=L++[⟨[st (B [59])],9,0,true⟩]) (q:=L.length) (n:=1) (T:=9) (ver:=0) (l:=[[59]]) hn hct hJ (by simp[wds]) rfl (by simp) (by intro s hs; simp at hs; subst hs; rfl) he ha
 simp -implicitDefEqProofs[IC.tl,i147,r147,h0,rp]
 refine pd_call (by simpa[rp]using hw) (fun he2 => ?_) (fun he2 H' hk => ?_)
 · rw[w2_setj hJ]
   simp -implicitDefEqProofs
   rw[wantR1]at he2 ⊢
   refine⟨_,_,PdS.ret (q:=(⟨1,lb,nm,lo,hi,wt,all,seen,[],[],[],p⟩,t2 c [59] r)) he2 rfl,?_⟩
   refine st_cv rfl hcl hJ ?_
   have e1:=hS.fz [⟨[st (B [59])],9,0,true⟩] 1
   have e2:=(Rw.und (exN_cell wt) (exN_und H.length wt) (L:=L)).fz [⟨[st (B [59])],9,0,true⟩] 1
   simp only[dlC,List.map_cons,List.map_nil,StageP.cN,e1,e2]
   simp[exN,acN]
 · simp -implicitDefEqProofs
   exact⟨_,_,PdS.pan (q:=(⟨1,lb,nm,lo,hi,wt,all,seen,[],[],[],p⟩,t2 c [59] r)) he2 (hk.w2 hJ),cv_id⟩
theorem loop147 (hn:NumT c) (h20:c.ts.length≤20000) (hJ:J2 H j k) {d:Nat} {N:Nat} {K:XE->Env->List AO->Prop} {res:List Int×Rd} {L:List AO}
 (hexit:∀ l m M env,res.2.e=0->res.1=l->l.length=m+1->Gd c d res.2->env.get 0=rp j->K (.exit 0) env (w2 H j k (pdO c res.2) ⟨dlC lb nm lo hi wt false (.own (H.length+L.length) 0 (m+1) 1 m) p,78,0,true⟩++(L++⟨ints l,3,m,true⟩::M)))
 (hpan:res.2.e≠0->∀ env H',Keep H [j,k] H'->K (.panic (fltI res.2.e res.2.p)) env H') :
 ∀ (n:Nat) (l:List Int) (m:Nat) (r:Rd) (M:List AO) (env:Env),c.ts.length≤r.a+n->l.length=m+1->l.length≤r.a+1->seenL c n l r=res->Gd c d r->r.e=0->env.get 0=rp j->env.get 1=rp k →
  LI Tryz.prog N drawB l147_0 env (w2 H j k (pdO c r) ⟨dlC lb nm lo hi wt false (.own (H.length+L.length) 0 (m+1) 1 m) p,78,0,true⟩++(L++⟨ints l,3,m,true⟩::M)) K:=by
 have hct:c.ts.length<4611686018427387904:=by omega
 intro n
 induction n with
 | zero =>
  intro l m r M env hna hlm hla hr hg he h0 h1
  refine li_go hm l147_0.eq_1 ?_
  have hp:peekR c [44] r=false:=by rw[←Bool.not_eq_true]; intro h; have:=peek_lt h; omega
  have h90:=fun p L=>ok90 hn (w2_j (o:=pdO c r) (p:=p) hJ L) (by have:=hg.a; omega) he (s:=[44]) rfl
  simp -implicitDefEqProofs[h0,h1,rp]
  refine call_go (by simpa[rp]using h90 _ _) ?_
  simp only[accR,hp]
  simp -implicitDefEqProofs[h0,h1,hp]
  rw[w2_setj hJ]
  simp only[seenL]at hr
  subst hr
  exact hexit l m M _ he rfl hlm hg (by simp[h0])
 | succ n ih =>
  intro l m r M env hna hlm hla hr hg he h0 h1
  refine li_go hm l147_0.eq_1 ?_
  have h90:=fun p L=>ok90 hn (w2_j (o:=pdO c r) (p:=p) hJ L) (by have:=hg.a; omega) he (s:=[44]) rfl
  simp -implicitDefEqProofs[h0,h1,rp]
  refine call_go (by simpa[rp]using h90 _ _) ?_
  rw[seenL]at hr
  by_cases hp:peekR c [44] r=true
  · rw[if_pos hp]at hr
    have hlt:=peek_lt hp
    have hla2:=hg.a
    have hg1:=hg.next hlt
    have he1:(nextR r).e=0:=he
    have ha1:(nextR r).a=r.a+1:=rfl
    rw[t2_acc hp]at hr
    simp only[]at hr
    rw[numF_seen he1]at hr
    have hr2:seenL c n (l++[(numF c (decide (l.length=32)) (nextR r)).1]) (numF c (decide (l.length=32)) (nextR r)).2=res:=hr
    have hd:(decide ((m:Int)+1=32))=decide (l.length=32):=by rw[decide_eq_decide]; omega
    have h89:=fun p L=>ok89 (w2_j (o:=pdO c (nextR r)) (p:=p) hJ L) (by omega) he1 (decide (l.length=32))
    obtain⟨k1,k2⟩:=numF_keep (decide (l.length=32)) hg1
    simp only[accR,hp,if_true]
    rw[w2_setj hJ]
    have e2:=fun o cs L f=>w2_sok (o:=o) (p:=⟨cs,78,0,true⟩) hJ L f
    have e3:=fun o cs L=>w2_ock (o:=o) hJ cs 78 L
    simp -implicitDefEqProofs[h0,h1,hp,rp,e2,e3,dlC,hd]
    generalize numF c (decide (l.length=32)) (nextR r)=q at hr2 h89 k1 k2
    refine pd_call (by simpa[rp,dlC]using h89 _ _) (fun he2 => ?_) (fun he2 H' hk => ?_)
    · rw[w2_setj hJ]
      simp -implicitDefEqProofs[h0,h1,hp,rp,e2,e3,dlC,hd]
      have hil:(ints l).length=m+1:=by simp[ints,hlm]
      simp -implicitDefEqProofs[hil]
      refine⟨by omega,by omega,hlm,?_⟩
      refine LI.cong ?_ (ih (l++[q.1]) (m+1) q.2 (M++[⟨[i64 q.1],3,0,true⟩]) _ (by omega) (by simp[hlm]) (by simp; omega) hr2 k1 he2 ?_ ?_)
      · simp[ints_snoc,dlC]
      all_goals simp[h0,h1,rp]
    · simp -implicitDefEqProofs
      rw[seenL_bad he2]at hr2
      subst hr2
      exact hpan he2 _ _ (hk.w2 hJ)
  · rw[if_neg hp]at hr
    rw[Bool.not_eq_true]at hp
    simp only[accR,hp]
    simp -implicitDefEqProofs[h0,h1,hp]
    rw[w2_setj hJ]
    subst hr
    exact hexit l m M _ he rfl hlm hg (by simp[h0])
end
end Go.Proofs.YtmkdpmfhlfhjkaaGreatDoor
namespace Go.Proofs.YtmkdpmfhlfhjkaaGreatDoor
open Go.Ab
section
variable {H:List AO} {c:Cx} {r:Rd} {j k:Nat} {lb nm:List UInt8} {lo hi p:Int} {wt:List Ex}
theorem t2_eq {c:Cx} {s:List UInt8} {r:Rd}:(takeR c s r).2=t2 c s r:=rfl
theorem seenR_no (hp:peekR c [115,101,101,110] r=false):seenR c r=((false,[]),r):=by unfold seenR; rw[if_neg (by simp[hp])]
theorem seenR_by (hp:peekR c [115,101,101,110] r=true) (hb:(t2 c [98,121] (nextR r)).e≠0):(seenR c r).2=t2 c [98,121] (nextR r):=by
 unfold seenR
 rw[if_pos hp,t2_acc hp]
 dsimp only
 generalize t2 c [98,121] (nextR r)=r1 at hb ⊢
 rw[if_neg (by rw[peek_bad hb]; decide),num_still r1 hb,seenL_bad hb]
theorem seenR_all (hp:peekR c [115,101,101,110] r=true) (h2:peekR c [97,108,108] (t2 c [98,121] (nextR r))=true):seenR c r=((true,[]),nextR (t2 c [98,121] (nextR r))):=by
 unfold seenR
 rw[if_pos hp,t2_acc hp]
 dsimp only
 rw[if_pos h2,t2_acc h2]
theorem seenR_list (hp:peekR c [115,101,101,110] r=true) (h2:peekR c [97,108,108] (t2 c [98,121] (nextR r))=false) {r1:Rd} (h1:t2 c [98,121] (nextR r)=r1):seenR c r=((false,(seenL c c.ts.length [(nmR c r1).1] (nmR c r1).2).1),(seenL c c.ts.length [(nmR c r1).1] (nmR c r1).2).2):=by
 subst h1
 unfold seenR
 rw[if_pos hp,t2_acc hp]
 dsimp only
 rw[if_neg (by rw[h2]; decide)]
theorem pdeal_t7 (hn:NumT c) (h20:c.ts.length≤20000) (hcl:closed H) (hJ:J2 H j k) {d:Nat} (hg:Gd c d r) (he:r.e=0) {L:List AO} {env:Env} (h0:env.get 0=rp j) (h1:env.get 1=rp k) {res:StageP×Rd}
 (hres:(⟨1,lb,nm,lo,hi,wt,(seenR c r).1.1,(seenR c r).1.2,[],[],[],p⟩,t2 c [59] (seenR c r).2)=res) :
 X Tryz.prog Tryz.f147.ntmps drawB (IC.tl 7 i147) env (w2 H j k (pdO c r) ⟨dlC lb nm lo hi wt false nl p,78,0,true⟩++L) (FinP H.length r147 (PdS c H j k res)):=by
 have hct:c.ts.length<4611686018427387904:=by omega
 have ha:=hg.a
 have tail:∀ (r:Rd) (all:Bool) (seen:List Int) (xS:SV) (L:List AO) (env:Env),r.e=0->r.a≤c.ts.length->Rw H.length L xS (inN seen)->env.get 0=rp j->(⟨1,lb,nm,lo,hi,wt,all,seen,[],[],[],p⟩,t2 c [59] r)=res->_:=fun r all seen xS L env he ha hS h0 hr=>pdeal_t8 (lb:=lb) (nm:=nm) (lo:=lo) (hi:=hi) (p:=p) (wt:=wt) hn h20 hcl hJ he ha hS h0 hr
 have bad:∀ rf:Rd,rf.e≠0->(seenR c r).2=rf->∀ H',Keep H [j,k] H'->PdS c H j k res (.pan (fltI rf.e rf.p)) H':=by
  intro rf hf hs H' hk
  have:res.2=rf:=by rw[←hres]; simp only[hs]; exact t2_still _ hf
  rw[←this]at hf ⊢
  exact PdS.pan hf hk
 have h90:=fun p L=>ok90 hn (w2_j (o:=pdO c r) (p:=p) hJ L) (by omega) he (s:=[115,101,101,110]) rfl
 have e2:=fun o cs L f=>w2_sok (o:=o) (p:=⟨cs,78,0,true⟩) hJ L f
 have e3:=fun o cs L=>w2_ock (o:=o) hJ cs 78 L
 rw[show IC.tl 7 i147=.seq (IC.nth 7 i147) (IC.tl 8 i147)from rfl]
 generalize IC.tl 8 i147=t8 at tail ⊢
 simp -implicitDefEqProofs[IC.nth,i147,r147,h0,h1,rp]
 refine call_go (by simpa[rp]using h90 _ _) ?_
 rw[w2_setj hJ]
 by_cases hp:peekR c [115,101,101,110] r=true
 · have hg1:=hg.next (peek_lt hp)
   have he1:(nextR r).e=0:=he
   simp only[accR,hp,if_true]
   have hw:=want_at (p:=⟨dlC lb nm lo hi wt false nl p,78,0,true⟩) (L:=L++[⟨[st (B [98,121])],9,0,true⟩]) (q:=L.length) (n:=1) (T:=9) (ver:=0) (l:=[[98,121]]) hn hct hJ (by simp[wds]) rfl (by simp) (by intro s hs; simp at hs; subst hs; rfl) he1 hg1.a
   have hgb:=(t2_keep (c:=c) (d:=d) [98,121] hg1).1
   simp -implicitDefEqProofs[h0,h1,hp,rp]
   refine pd_call (by simpa[rp]using hw) (fun he2 => ?_) (fun he2 H' hk => ?_)
   · rw[w2_setj hJ]
     simp only[wantR1]at he2 ⊢
     have hab:=seenR_all (c:=c) (r:=r) hp
     have hli:=seenR_list (c:=c) (r:=r) hp
     generalize t2 c [98,121] (nextR r)=r1 at hgb he2 hab hli ⊢
     have ha1:=hgb.a
     have h90:=fun p L=>ok90 hn (w2_j (o:=pdO c r1) (p:=p) hJ L) (by omega) he2 (s:=[97,108,108]) rfl
     simp -implicitDefEqProofs[h0,h1,rp]
     refine call_go (by simpa[rp]using h90 _ _) ?_
     rw[w2_setj hJ]
     by_cases hp2:peekR c [97,108,108] r1=true
     · have hg2:=hgb.next (peek_lt hp2)
       simp only[accR,hp2,if_true]
       simp -implicitDefEqProofs[h0,h1,hp2,rp,e2,e3,dlC]
       have hx:=tail (nextR r1) true [] nl (L++[⟨[st (B [98,121])],9,0,true⟩]) ((54,rp k)::env) he2 hg2.a (Rw.und rfl rfl) (by simp[h0]) (by rw[←hres,hab hp2])
       refine Xc ?_ (tail (nextR r1) true [] nl (L++[⟨[st (B [98,121])],9,0,true⟩]) _ he2 hg2.a (Rw.und rfl rfl) ?_ (by rw[←hres,hab hp2]))
       · simp[dlC]
       · simp[h0,rp]
     · rw[Bool.not_eq_true]at hp2
       have hli:=hli hp2 rfl
       have h89:=fun p L=>ok89 (w2_j (o:=pdO c r1) (p:=p) hJ L) (by omega) he2 false
       have hkn:=num_keep (c:=c) (d:=d) r1 hgb
       simp only[numF_off]at h89
       simp only[accR,hp2]
       simp -implicitDefEqProofs[h0,h1,hp2,rp,e2,e3,dlC]
       generalize nmR c r1=q at hkn h89 hli
       obtain⟨k1,k2⟩:=hkn
       refine pd_call (by simpa[rp]using h89 _ _) (fun he3 => ?_) (fun he3 H' hk => ?_)
       · rw[w2_setj hJ]
         simp -implicitDefEqProofs[h0,h1,hp2,rp,e2,e3,dlC]
         generalize hs:seenL c c.ts.length [q.1] q.2=s at hli
         refine LI.cong (H':=w2 H j k (pdO c q.2) ⟨dlC lb nm lo hi wt false (.own (H.length+(L++[⟨[st (B [98,121])],9,0,true⟩]:List AO).length) 0 (0+1) 1 0) p,78,0,true⟩++((L++[⟨[st (B [98,121])],9,0,true⟩])++⟨ints [q.1],3,0,true⟩::[])) (by simp[dlC,ints]) ?_
         refine loop147 hn h20 hJ (L:=L++[⟨[st (B [98,121])],9,0,true⟩]) (res:=s) (fun l m M env hs0 hsl hlm hgs h0 => ?_) (fun hs0 env H' hk => ?_) c.ts.length [q.1] 0 q.2 [] _ (by omega) rfl (by simp) hs k1 he3 ?_ ?_
         · simp -implicitDefEqProofs
           have hR:Rw H.length ((L++[⟨[st (B [98,121])],9,0,true⟩])++⟨ints l,3,m,true⟩::M) (.own (H.length+(L++[⟨[st (B [98,121])],9,0,true⟩]:List AO).length) 0 (m+1) 1 m) (inN l):=by
            have:=Rw.own (n:=H.length) (q:=(L++[⟨[st (B [98,121])],9,0,true⟩]:List AO).length) (m:=m+1) (sz:=1) (ver:=m) (T:=3) (L:=(L++[⟨[st (B [98,121])],9,0,true⟩])++⟨ints l,3,m,true⟩::M) (cells:=ints l) (by simp) (by simp[ints,hlm]) (ints_und _ _)
            have hne:l≠[]:=by rintro rfl; simp at hlm
            rw[inN,if_neg hne,hlm]; exact this
           have hx:=tail s.2 false l _ _ env hs0 hgs.a hR h0 (by rw[←hres,hli,hsl])
           exact Xc (by simp[dlC]) hx
         · simp -implicitDefEqProofs
           exact⟨_,_,bad s.2 hs0 (by rw[hli]) _ hk,cv_id⟩
         all_goals simp[h0,h1,rp]
       · simp -implicitDefEqProofs
         rw[seenL_bad he3]at hli
         exact⟨_,_,bad q.2 he3 (by rw[hli]) _ (hk.w2 hJ),cv_id⟩
   · simp -implicitDefEqProofs
     rw[wantR1]at he2
     exact⟨_,_,bad _ he2 (seenR_by hp he2) _ (hk.w2 hJ),cv_id⟩
 · rw[Bool.not_eq_true]at hp
   simp only[accR,hp]
   simp -implicitDefEqProofs[h0,h1,hp]
   exact tail r false [] nl L _ he ha (Rw.und rfl rfl) (by simp[h0,rp]) (by rw[←hres,seenR_no hp])
end
end Go.Proofs.YtmkdpmfhlfhjkaaGreatDoor
namespace Go.Proofs.YtmkdpmfhlfhjkaaGreatDoor
open Go.Ab
def sC (lb:List UInt8) (p:Int):List SV:=[i64 0,st (B lb),st (B []),i64 0,i64 0,nl,bl false,nl,nl,nl,nl,i64 p]
section
variable {H:List AO} {c:Cx} {r:Rd} {j k:Nat} {lb:List UInt8} {p:Int} {F:Rd->Ex×Rd}
def dealT (c:Cx) (F:Rd->Ex×Rd) (lb:List UInt8) (p:Int) (r:Rd):StageP×Rd :=
 let nm:=wordR c r
 let lo:=nmR c (t2 c [105,110] nm.2)
 let hi:=nmR c (t2 c [46,46] lo.2)
 let w:=optR c F [119,101,105,103,104,116] hi.2
 let s:=seenR c w.2
 (⟨1,lb,nm.1,lo.1,hi.1,w.1,s.1.1,s.1.2,[],[],[],p⟩,t2 c [59] s.2)
theorem takeR_fst (c:Cx) (s:List UInt8) (r:Rd):(takeR c s r).1=hereR c r:=rfl
theorem dealT_eq (r:Rd):dealR c F { zStage with lb:=lb } r=dealT c F lb (hereR c r) (t2 c [100,101,97,108] r):=by
 unfold dealR dealT
 simp only[zStage,takeR_fst,t2_eq]
theorem w2_j0 {o p:AO} (h:J2 H j k):(w2 H j k o p)[j]? = some o:=by simpa using w2_j (o:=o) (p:=p) h []
theorem w2_setj0 {o p:AO} (h:J2 H j k) (o':AO):(w2 H j k o p).set j o'=w2 H j k o' p:=by simpa using w2_setj (o:=o) (p:=p) h [] o'
theorem w2_ock0 {o:AO} (h:J2 H j k) (cs:List SV) (T:TypeId):objCells (w2 H j k o ⟨cs,T,0,true⟩) k 0=cs:=by simpa using w2_ock (o:=o) h cs T []
theorem w2_sok0 {o p:AO} (h:J2 H j k) (f:AO->AO):Ab.setObj (w2 H j k o p) k f=w2 H j k o (f p):=by simpa using w2_sok (o:=o) (p:=p) h [] f
set_option maxHeartbeats 2000000 in
theorem pdeal_t2 (hn:NumT c) (h20:c.ts.length≤20000) (hcl:closed H) (hJ:J2 H j k) {d:Nat} (hF:PdC c 32 [] F d) (hkF:Kp c d F) (hst:Still F) (hg:Gd c d r) (he:r.e=0) {L:List AO} {env:Env} (h0:env.get 0=rp j) (h1:env.get 1=rp k) {nm:List UInt8} {res:StageP×Rd}
 (hres:(fun lo:Int×Rd=>(fun hi:Int×Rd=>(fun w:List Ex×Rd=>(fun s:(Bool×List Int)×Rd=>((⟨1,lb,nm,lo.1,hi.1,w.1,s.1.1,s.1.2,[],[],[],p⟩,t2 c [59] s.2):StageP×Rd)) (seenR c w.2)) (optR c F [119,101,105,103,104,116] hi.2)) (nmR c (t2 c [46,46] lo.2))) (nmR c (t2 c [105,110] r))=res) :
 X Tryz.prog Tryz.f147.ntmps drawB (IC.tl 2 i147) env (w2 H j k (pdO c r) ⟨dlC lb nm 0 0 [] false nl p,78,0,true⟩++L) (FinP H.length r147 (PdS c H j k res)):=by
 have hct:c.ts.length<4611686018427387904:=by omega
 have ha:=hg.a
 have tail:∀ (lo hi:Int) (wt:List Ex) (r:Rd) (L:List AO) (env:Env),Gd c d r->r.e=0->env.get 0=rp j->env.get 1=rp k->(⟨1,lb,nm,lo,hi,wt,(seenR c r).1.1,(seenR c r).1.2,[],[],[],p⟩,t2 c [59] (seenR c r).2)=res->_:=fun lo hi wt r L env hg he h0 h1 hr=>pdeal_t7 (lb:=lb) (nm:=nm) (lo:=lo) (hi:=hi) (p:=p) (wt:=wt) (L:=L) hn h20 hcl hJ hg he h0 h1 hr
 have bad:∀ rf:Rd,rf.e≠0->res.2=rf->∀ H',Keep H [j,k] H'->PdS c H j k res (.pan (fltI rf.e rf.p)) H':=by
  intro rf hf hs H' hk
  rw[←hs]at hf ⊢
  exact PdS.pan hf hk
 have e2:=fun o cs L f=>w2_sok (o:=o) (p:=⟨cs,78,0,true⟩) hJ L f
 have e3:=fun o cs L=>w2_ock (o:=o) hJ cs 78 L
 rw[show IC.tl 2 i147=.seq (IC.nth 2 i147) (IC.tl 3 i147)from rfl,show IC.tl 3 i147=.seq (IC.nth 3 i147) (IC.tl 4 i147)from rfl,show IC.tl 4 i147=.seq (IC.nth 4 i147) (IC.tl 5 i147)from rfl,show IC.tl 5 i147=.seq (IC.nth 5 i147) (IC.tl 6 i147)from rfl,show IC.tl 6 i147=.seq (IC.nth 6 i147) (IC.tl 7 i147)from rfl]
 generalize IC.tl 7 i147=t7 at tail ⊢
 have hw:=want_at (p:=⟨dlC lb nm 0 0 [] false nl p,78,0,true⟩) (L:=L++[⟨[st (B [105,110])],9,0,true⟩]) (q:=L.length) (n:=1) (T:=9) (ver:=0) (l:=[[105,110]]) hn hct hJ (by simp[wds]) rfl (by simp) (by intro s hs; simp at hs; subst hs; rfl) he ha
 have hg1:=(t2_keep (c:=c) (d:=d) [105,110] hg).1
 simp -implicitDefEqProofs[IC.nth,i147,r147,h0,h1,rp]
 refine pd_call (by simpa[rp]using hw) (fun he1 => ?_) (fun he1 H' hk => ?_)
 · rw[w2_setj hJ]
   simp only[wantR1]at he1 ⊢
   generalize t2 c [105,110] r=r1 at hg1 he1 hres ⊢
   have ha1:=hg1.a
   have h89:=fun p L=>ok89 (w2_j (o:=pdO c r1) (p:=p) hJ L) (by omega) he1 false
   simp only[numF_off]at h89
   have hg2:=(num_keep (c:=c) (d:=d) r1 hg1).1
   simp -implicitDefEqProofs[h0,h1,rp]
   generalize nmR c r1=q at hg2 h89 hres
   refine pd_call (by simpa[rp]using h89 _ _) (fun he2 => ?_) (fun he2 H' hk => ?_)
   · rw[w2_setj hJ]
     simp -implicitDefEqProofs[h0,h1,rp,e2,e3,dlC]
     have hw:=want_at (p:=⟨dlC lb nm q.1 0 [] false nl p,78,0,true⟩) (L:=(L++[⟨[st (B [105,110])],9,0,true⟩])++[⟨[st (B [46,46])],9,0,true⟩]) (q:=(L++[(⟨[st (B [105,110])],9,0,true⟩:AO)]).length) (n:=1) (T:=9) (ver:=0) (l:=[[46,46]]) hn hct hJ (by simp[wds]) rfl (by simp) (by intro s hs; simp at hs; subst hs; rfl) he2 hg2.a
     have hg3:=(t2_keep (c:=c) (d:=d) [46,46] hg2).1
     refine pd_call (by simpa[rp,dlC]using hw) (fun he3 => ?_) (fun he3 H' hk => ?_)
     · rw[w2_setj hJ]
       simp only[wantR1]at he3 ⊢
       try simp only at hres
       generalize t2 c [46,46] q.2=r3 at hg3 he3 hres ⊢
       have ha3:=hg3.a
       have h89:=fun p L=>ok89 (w2_j (o:=pdO c r3) (p:=p) hJ L) (by omega) he3 false
       simp only[numF_off]at h89
       have hg4:=(num_keep (c:=c) (d:=d) r3 hg3).1
       simp -implicitDefEqProofs[h0,h1,rp]
       generalize nmR c r3=q4 at hg4 h89 hres
       refine pd_call (by simpa[rp]using h89 _ _) (fun he4 => ?_) (fun he4 H' hk => ?_)
       · rw[w2_setj hJ]
         simp -implicitDefEqProofs[h0,h1,rp,e2,e3,dlC]
         have h181:=fun p L=>ok181 hn hF (s:=[119,101,105,103,104,116]) rfl (w2_j (o:=pdO c q4.2) (p:=p) hJ L) hct hg4 he4
         have hg5:=(optR_keep hkF [119,101,105,103,104,116] _ hg4).1
         try simp only at hres
         generalize optR c F [119,101,105,103,104,116] q4.2=q5 at hg5 h181 hres
         refine pd_call (by simpa[rp]using h181 _ _) (fun he5 => ?_) (fun he5 H' hk => ?_)
         · rw[w2_setj hJ]
           simp -implicitDefEqProofs[h0,h1,rp,e2,e3,dlC]
           refine Xc ?_ (tail q.1 q4.1 q5.1 q5.2 (L++[⟨[st (B [105,110])],9,0,true⟩,⟨[st (B [46,46])],9,0,true⟩]) _ hg5 he5 ?_ ?_ hres)
           · simp[dlC]
           all_goals simp[h0,h1,rp]
         · simp -implicitDefEqProofs
           refine⟨_,_,bad _ he5 ?_ _ (hk.w2 hJ),cv_id⟩
           rw[←hres,seen_still _ he5,t2_still _ he5]
       · simp -implicitDefEqProofs
         refine⟨_,_,bad _ he4 ?_ _ (hk.w2 hJ),cv_id⟩
         rw[←hres]
         simp only[opt_still _ _ he4,seen_still _ he4,t2_still _ he4]
     · simp -implicitDefEqProofs
       rw[wantR1]at he3
       refine⟨_,_,bad _ he3 ?_ _ (hk.w2 hJ),cv_id⟩
       rw[←hres]
       simp only[num_still _ he3,opt_still _ _ he3,seen_still _ he3,t2_still _ he3]
   · simp -implicitDefEqProofs
     refine⟨_,_,bad _ he2 ?_ _ (hk.w2 hJ),cv_id⟩
     rw[←hres]
     simp only[num_still _ he2,opt_still _ _ he2,seen_still _ he2,t2_still _ he2]
 · simp -implicitDefEqProofs
   rw[wantR1]at he1
   refine⟨_,_,bad _ he1 ?_ _ (hk.w2 hJ),cv_id⟩
   rw[←hres]
   simp only[num_still _ he1,opt_still _ _ he1,seen_still _ he1,t2_still _ he1]
set_option maxHeartbeats 2000000 in
theorem ok147 (hn:NumT c) (h20:c.ts.length≤20000) (hJ:J2 H j k) {d:Nat} (hF:PdC c 32 [] F d) (hkF:Kp c d F) (hst:Still F) (ho:H[j]? = some (pdO c r)) (hk0:H[k]? = some ⟨sC lb p,78,0,true⟩) (hg:Gd c d r) (he:r.e=0) :
 OkP Tryz.prog 147 [rp j,rp k] H (PdS c H j k (dealT c F lb p r)):=by
 have hct:c.ts.length<4611686018427387904:=by omega
 have ha:=hg.a
 have e2:=fun o cs f=>w2_sok0 (o:=o) (p:=⟨cs,78,0,true⟩) hJ f
 have e3:=fun o cs=>w2_ock0 (o:=o) hJ cs 78
 refine okP_fn hm Tryz.func147 c147 (by simp[rp,SV.under,hJ.lj,hJ.lk]) fun hcl => ?_
 refine Xc (H':=w2 H j k (pdO c r) ⟨sC lb p,78,0,true⟩) (w2_same ho hk0) ?_
 have hg1:=(word_keep (c:=c) (d:=d) r hg).1
 have h88:=fun p=>ok88 (w2_j0 (o:=pdO c r) (p:=p) hJ) (by omega) he false
 simp only[wordF_off]at h88
 have tail:∀ (nm:List UInt8) (r:Rd) (L:List AO) (env:Env) (res:StageP×Rd),Gd c d r->r.e=0->env.get 0=rp j->env.get 1=rp k->_->_:=fun nm r L env res hg he h0 h1 hr=>pdeal_t2 (lb:=lb) (nm:=nm) (p:=p) (L:=L) (res:=res) hn h20 hcl hJ hF hkF hst hg he h0 h1 hr
 rw[show i147=.seq (IC.nth 0 i147) (.seq (IC.nth 1 i147) (IC.tl 2 i147))from rfl]
 generalize IC.tl 2 i147=t2' at tail ⊢
 generalize hres:dealT c F lb p r=res
 unfold dealT at hres
 simp -implicitDefEqProofs[IC.nth,i147,r147,rp,e2,e3,sC]
 generalize wordR c r=q at hg1 h88 hres
 refine pd_call (by simpa[rp]using h88 _) (fun he1 => ?_) (fun he1 H' hk => ?_)
 · rw[w2_setj0 hJ]
   simp -implicitDefEqProofs[rp,e2,e3]
   refine Xc ?_ (tail q.1 q.2 [] _ res hg1 he1 ?_ ?_ hres)
   · simp[dlC,exN]
   all_goals simp[rp]
 · simp -implicitDefEqProofs
   have hb:res.2=q.2:=by
    rw[←hres]
    simp only[num_still _ he1,opt_still _ _ he1,seen_still _ he1,t2_still _ he1]
   have hk':Keep H [j,k] H':=(show Keep (w2 H j k (pdO c r) _++[]) [j] H' by simpa using hk).w2 hJ
   rw[←hb]at he1 ⊢
   exact⟨_,_,PdS.pan he1 hk',cv_id⟩
end
end Go.Proofs.YtmkdpmfhlfhjkaaGreatDoor
namespace Go.Proofs.YtmkdpmfhlfhjkaaGreatDoor
open Go.Ab
theorem okP_WI {P:Program} (hm:P.follows .mixedOrders=true) {f:FuncId} {fn:Func} {i:IC} {rs:List RS} (hf:P.funcs[f]? = some fn) (hc:chkF P drawB fn i rs=true)
 {args:List SV} {H:List AO} {Pt:Out->List AO->Prop} (hn:args.length=fn.params.size+fn.nfree)
 (hx:closed H->WI P fn.ntmps drawB i (argsEnv args) H (FinP H.length rs Pt)):OkP P f args H Pt:=by
 unfold chkF at hc
 rw[Bool.and_eq_true,Bool.and_eq_true,Bool.and_eq_true]at hc
 obtain⟨⟨⟨h1,h2⟩,h3⟩,h4⟩:=hc
 split at h1
 · rename_i c hb
   exact okP_W hf hb (by simpa using h2) (by rw[hn]; simpa using h4) h3 fun hcl=>hx hcl c h1
 · cases h1
section
variable {H:List AO} {c:Cx} {r:Rd} {j:Nat}
theorem s1_j (hj:j<H.length) (o:AO) (L:List AO):(H.set j o++L)[j]? = some o:=by rw[List.getElem?_append_left (by simpa using hj)]; simp[hj]
theorem s1_set (hj:j<H.length) (o o':AO) (L:List AO):(H.set j o++L).set j o'=H.set j o'++L:=by rw[List.set_append_left _ _ (by simpa using hj),List.set_set]
theorem ok91p (hj:j<H.length) (r:Rd) (L:List AO):Ok Tryz.prog 91 [rp j] (H.set j (pdO c r)++L) (.ret (i64 (hereR c r))) (H.set j (pdO c r)++L):=ok91 (s1_j hj _ _)
theorem ok90p (hn:NumT c) (hj:j<H.length) (hl:r.a<4611686018427387904) (he:r.e=0) (L:List AO) {s:List UInt8} (hs:wrdB s=true):Ok Tryz.prog 90 [rp j,st (B s)] (H.set j (pdO c r)++L) (.ret (bl (peekR c s r))) (H.set j (pdO c (accR c s r))++L):=by
 have:=ok90 hn (s1_j hj (pdO c r) L) hl he hs
 rwa [s1_set hj]at this
theorem ok88p (hj:j<H.length) (hl:r.a<4611686018427387904) (he:r.e=0) (L:List AO) (full:Bool):OkP Tryz.prog 88 [rp j,bl full] (H.set j (pdO c r)++L) (PdV c (H.set j (pdO c r)++L) j (fun s=>st (B s)) (wordF c full r)):=ok88 (s1_j hj (pdO c r) L) hl he full
theorem ok89p (hj:j<H.length) (hl:r.a<4611686018427387904) (he:r.e=0) (L:List AO) (full:Bool):OkP Tryz.prog 89 [rp j,bl full] (H.set j (pdO c r)++L) (PdV c (H.set j (pdO c r)++L) j i64 (numF c full r)):=ok89 (s1_j hj (pdO c r) L) hl he full
theorem want_p (hn:NumT c) (hct:c.ts.length<4611686018427387904) (hj:j<H.length) {L:List AO} {q n T ver:Nat} {l:List (List UInt8)} (hL:L[q]? = some ⟨wds l,T,ver,true⟩) (hn':n=l.length) (hl:l.length<4611686018427387904) (hw:∀ s∈l,wrdB s=true) (he:r.e=0) (ha:r.a≤c.ts.length) :
 OkP Tryz.prog 87 [rp j,.own (H.length+q) 0 n 1 ver] (H.set j (pdO c r)++L) (PdV c (H.set j (pdO c r)++L) j (fun _:Unit=>.tup []) ((),wantR c l r)):=by
 refine ok87 hn (s1_j hj _ L) (fun o => ?_) hl hct hw he ha
 have:=own_set (G:=H.set j (pdO c r)) (L:=L) (j:=j) (k:=q) (by simpa using hj) hL hn' o
 simpa using this
def gotoT (c:Cx) (r:Rd):List UInt8×Rd:=((wordR c r).1,t2 c [59] (wordR c r).2)
theorem ok201 (hn:NumT c) (hct:c.ts.length<4611686018427387904) {q:Nat} (hq:H[q]? = some (bxO j)) (ho:H[j]? = some (pdO c r)) (he:r.e=0) (ha:r.a≤c.ts.length):OkP Tryz.prog 201 [rp q] H (PdV c H j (fun s=>st (B s)) (gotoT c r)):=by
 have hj:=getElem?_lt ho
 have hqj:=getElem?_lt hq
 have hne:j≠q:=by
  rintro rfl
  rw[hq]at ho
  simp only[bxO,pdO,Option.some.injEq,AO.mk.injEq]at ho
  have:=congrArg List.length ho.1
  simp[pdC]at this
 have e1:objCells H q 0=[rp j]:=objCells_of (o:=bxO j) hq rfl
 have e1s:∀ o L,objCells (H.set j o++L) q 0=[rp j]:=fun o L=>objCells_of (o:=bxO j) (by rw[List.getElem?_append_left (by simpa using hqj),List.getElem?_set_ne hne]; exact hq) rfl
 have e1n:∀ o,objCells (H.set j o) q 0=[rp j]:=fun o=>by simpa using e1s o []
 have h88:=ok88 ho (by omega) he false
 simp only[wordF_off]at h88
 have hwk:(wordR c r).2.a≤c.ts.length:=by
  unfold wordR; split
  · rename_i h; exact(tokB_lt h).2.1
  · unfold failR; split<;>exact ha
 refine okP_fn hm Tryz.func201 c201 (by simp[rp,SV.under,hqj]) fun hcl => ?_
 unfold gotoT
 simp -implicitDefEqProofs[i201,r201,rp,e1,e1n]
 generalize wordR c r=w at h88 hwk ⊢
 refine pd_call (by simpa[rp]using h88) (fun he1 => ?_) (fun he1 H' hk => ?_)
 · simp -implicitDefEqProofs[rp,e1,e1n,e1s]
   have hw:=want_p (r:=w.2) (L:=[⟨[st (B [59])],9,0,true⟩]) (q:=0) (n:=1) (T:=9) (ver:=0) (l:=[[59]]) hn hct hj (by simp[wds]) rfl (by simp) (by intro s hs; simp at hs; subst hs; rfl) he1 hwk
   refine pd_call (by simpa[rp]using hw) (fun he2 => ?_) (fun he2 H' hk => ?_)
   · rw[s1_set hj]
     simp -implicitDefEqProofs[rp,e1,e1n,e1s]
     simp only[wantR1]at he2 ⊢
     exact⟨_,_,PdV.got he2 rfl rfl rfl,cv_fz 2 (closed_pd (c:=c) (a:=(t2 c [59] w.2).a) (v:=(t2 c [59] w.2).v) hcl) (by simp) rfl⟩
   · simp -implicitDefEqProofs
     rw[wantR1]at he2
     exact⟨_,_,PdV.pan (q:=(w.1,t2 c [59] w.2)) he2 hk.of_set,cv_id⟩
 · simp -implicitDefEqProofs
   refine⟨_,_,PdV.eqv (q:=w) (.inr ⟨he1,?_,?_⟩) (PdV.pan he1 hk),cv_id⟩<;>simp only[t2_still _ he1]
theorem setR_eq {F:Rd->Ex×Rd} (l:List SetP):setR c F l r=(⟨(wordF c (decide (l.length=32)) r).1,(F (t2 c [61] (wordF c (decide (l.length=32)) r).2)).1,hereR c r⟩,t2 c [59] (F (t2 c [61] (wordF c (decide (l.length=32)) r).2)).2):=by
 have hh:hereR c (if l.length=32∧freeR c r=true then failR c 12 r else r)=hereR c r:=by
  split
  · unfold failR; split<;>rfl
  · rfl
 unfold setR wordF
 simp only[hh,decide_eq_true_eq]
theorem sets_bad {F:Rd->Ex×Rd} {n:Nat} {l:List SetP} (h:r.e≠0):setsL c F n l r=(l,r):=by
 cases n with
 | zero=>rfl
 | succ n=>rw[setsL,if_neg (fun h2=>h h2.1)]
def pactO (n:Nat) (nm:List UInt8) (wh:List Ex) (hid:Bool) (m:Nat) (go:List UInt8) (p:Int):AO:=⟨[st (B nm),exN wh,bl hid,.own (n+3) 0 m 7 m,st (B go),i64 p],89,0,true⟩
set_option maxHeartbeats 2000000 in
theorem loop182 (hn:NumT c) (h20:c.ts.length≤20000) (hj:j<H.length) {d:Nat} {F:Rd->Ex×Rd} (hF:PdC c 32 [] F d) (hkF:Kp c d F) (hst:Still F) {nm:List UInt8} {wh:List Ex} {hid:Bool} {p:Int} {N:Nat} {K:XE->Env->List AO->Prop} {res:List SetP×Rd}
 (hexit:∀ env G,res.2.e=0->peekR c [125] res.2=true->Gd c d res.2->env.get 1=rp H.length->env.get 2=rp (H.length+1)->env.get 3=rp (H.length+2)->K (.exit 0) env (H.set j (pdO c (nextR res.2))++(bxO j::aZ::pactO H.length nm wh hid res.1.length [] p::setO res.1::G)))
 (hpan:res.2.e≠0->∀ env H',Keep H [j] H'->K (.panic (fltI res.2.e res.2.p)) env H') :
 ∀ (n:Nat) (l:List SetP) (r:Rd) (G:List AO) (env:Env),c.ts.length<r.a+n->l.length≤r.a->setsL c F n l r=res->Gd c d r->r.e=0->env.get 1=rp H.length->env.get 2=rp (H.length+1)->env.get 3=rp (H.length+2) →
  LI Tryz.prog N drawB l182_0 env (H.set j (pdO c r)++(bxO j::aZ::pactO H.length nm wh hid l.length [] p::setO l::G)) K:=by
 have hct:c.ts.length<4611686018427387904:=by omega
 intro n
 induction n with
 | zero=>intro l r G env hna hla hr hg; have:=hg.a; omega
 | succ n ih =>
  intro l r G env hna hla hr hg he h1 h2 h3
  have ha:=hg.a
  refine li_go hm l182_0.eq_1 ?_
  have h90:=ok90p (r:=r) hn hj (by omega) he (s:=[125])
  simp -implicitDefEqProofs[h1,h2,h3,rp,bxO]
  refine call_go (by simpa[rp]using h90 _ rfl) ?_
  rw[setsL]at hr
  by_cases hp:peekR c [125] r=true
  · rw[if_neg (by simp[hp])]at hr
    subst hr
    simp only[accR,hp,if_true]
    simp -implicitDefEqProofs[h1,h2,h3,hp]
    exact hexit _ G he hp hg (by simp[h1,rp]) (by simp[h2,rp]) (by simp[h3,rp])
  · rw[Bool.not_eq_true]at hp
    rw[if_pos ⟨he,hp⟩]at hr
    obtain⟨k1,k2,k3⟩:=setR_keep hkF l hg
    have hseq:=setR_eq (c:=c) (r:=r) (F:=F) l
    have hd:(decide ((l.length:Int)=32))=decide (l.length=32):=by rw[decide_eq_decide]; omega
    have h88:=fun L=>ok88p (c:=c) (r:=r) hj (by omega) he L (decide (l.length=32))
    have hgw:=(wordF_keep (decide (l.length=32)) hg).1
    simp only[accR,hp]
    simp -implicitDefEqProofs[h1,h2,h3,hp,rp,pactO]
    refine call_go (by simpa[rp]using ok91p (c:=c) hj r _) ?_
    simp -implicitDefEqProofs[h1,h2,h3,hp,rp,hd]
    generalize wordF c (decide (l.length=32)) r=w at h88 hseq hgw
    refine⟨rfl,?_⟩
    refine pd_call (by simpa[rp]using h88 _) (fun he1 => ?_) (fun he1 H' hk => ?_)
    · rw[s1_set hj]
      simp -implicitDefEqProofs[h1,h2,h3,rp,hd]
      have hg2:=(t2_keep (c:=c) (d:=d) [61] hgw).1
      have hw:=want_p (H:=H) (j:=j) (r:=w.2) (L:=bxO j::aZ::pactO H.length nm wh hid l.length [] p::setO l::(G++[⟨[st (B w.1),i64 0,i64 0,st (B []),nl,i64 0,i64 (hereR c r)],91,0,true⟩,⟨[st (B [61])],9,0,true⟩])) (q:=G.length+1+4) (n:=1) (T:=9) (ver:=0) (l:=[[61]]) hn hct hj (by simp[wds]) rfl (by simp) (by intro s hs; simp at hs; subst hs; rfl) he1 hgw.a
      refine pd_call (by simpa[rp,bxO,pactO]using hw) (fun he2 => ?_) (fun he2 H' hk => ?_)
      · rw[s1_set hj]
        simp only[wantR1]at he2 ⊢
        generalize t2 c [61] w.2=r2 at hg2 he2 hseq ⊢
        have hc:=fun L=>hF (s1_j hj (pdO c r2) L) hg2 he2
        have hg3:=(hkF _ hg2).1
        simp -implicitDefEqProofs[h1,h2,h3,rp]
        refine call_goP (by simpa[rp]using hc _) ?_
        intro o H' hq
        unfold PdP PdV at hq
        generalize F r2=x at hq hg3 hseq
        by_cases he3:x.2.e=0
        · rw[if_pos he3]at hq
          obtain⟨rfl,rfl⟩:=hq
          rw[s1_set hj]
          simp -implicitDefEqProofs[h1,h2,h3,rp,Ex.v]
          have hw:=want_p (H:=H) (j:=j) (r:=x.2) (L:=bxO j::aZ::pactO H.length nm wh hid l.length [] p::setO l::(G++[⟨st (B w.1)::(x.1.c++[i64 (hereR c r)]),91,0,true⟩,⟨[st (B [61])],9,0,true⟩,⟨[st (B [59])],9,0,true⟩])) (q:=G.length+2+4) (n:=1) (T:=9) (ver:=0) (l:=[[59]]) hn hct hj (by simp[wds]) rfl (by simp) (by intro s hs; simp at hs; subst hs; rfl) he3 hg3.a
          refine pd_call (by simpa[rp,bxO,pactO]using hw) (fun he4 => ?_) (fun he4 H' hk => ?_)
          · rw[s1_set hj]
            simp only[wantR1]at he4 ⊢
            simp -implicitDefEqProofs[h1,h2,h3,rp,setO,rws_len SetP.len]
            refine⟨by omega,by omega,?_⟩
            have hs4:(setR c F l r).2.e=0:=by rw[hseq]; exact he4
            have ha4:=k1.a
            have k3':=k3 hs4
            refine LI.cong ?_ (ih (l++[(setR c F l r).1]) (setR c F l r).2 (G++[⟨st (B w.1)::(x.1.c++[i64 (hereR c r)]),91,0,true⟩,⟨[st (B [61])],9,0,true⟩,⟨[st (B [59])],9,0,true⟩,⟨st (B w.1)::(x.1.c++[i64 (hereR c r)]),91,0,true⟩]) _ (by omega) (by simp; omega) hr k1 hs4 ?_ ?_ ?_)
            · rw[hseq]
              simp[pactO,setO,rws_app,rws,SetP.c,bxO,rp]
            all_goals simp[h1,h2,h3,rp]
          · simp -implicitDefEqProofs
            rw[wantR1]at he4
            have hs4:(setR c F l r).2=t2 c [59] x.2:=by rw[hseq]
            rw[sets_bad (by rw[hs4]; exact he4),hs4]at hr
            subst hr
            exact hpan he4 _ _ hk.of_set
        · rw[if_neg he3]at hq
          obtain⟨rfl,hk⟩:=hq
          simp -implicitDefEqProofs
          have hs4:(setR c F l r).2=x.2:=by rw[hseq]; exact t2_still _ he3
          rw[sets_bad (by rw[hs4]; exact he3),hs4]at hr
          subst hr
          exact hpan he3 _ _ hk.of_set
      · simp -implicitDefEqProofs
        rw[wantR1]at he2
        have hs4:(setR c F l r).2=t2 c [61] w.2:=by rw[hseq]; simp only[hst _ he2,t2_still _ he2]
        rw[sets_bad (by rw[hs4]; exact he2),hs4]at hr
        subst hr
        exact hpan he2 _ _ hk.of_set
    · simp -implicitDefEqProofs
      have hs4:(setR c F l r).2=w.2:=by rw[hseq]; simp only[t2_still _ he1,hst _ he1]
      rw[sets_bad (by rw[hs4]; exact he1),hs4]at hr
      subst hr
      exact hpan he1 _ _ hk.of_set
end
end Go.Proofs.YtmkdpmfhlfhjkaaGreatDoor
namespace Go.Proofs.YtmkdpmfhlfhjkaaGreatDoor
open Go.Ab
section
variable {H:List AO} {c:Cx} {r:Rd} {j:Nat} {nm:List UInt8} {wh:List Ex} {hid:Bool} {sets:List SetP} {p:Int}
theorem pcv_act {x y:AO} {o:AO} {go:List UInt8} {G:List AO} (hcl:closed (H.set j o)) :
 Cv H.length (.agg [st (B nm),exN wh,bl hid,.own (H.length+3) 0 sets.length 7 sets.length,st (B go),i64 p]) (H.set j o++(x::y::pactO H.length nm wh hid sets.length go p::setO sets::G)) (actV ⟨nm,wh,hid,sets,go,p⟩) (H.set j o):=by
 refine Cv.le (cv_fz (n0:=H.length) 4 hcl (by simp) rfl) ?_
 have e:(rws SetP.c sets).take (sets.length*7)=rws SetP.c sets:=List.take_of_length_le (by rw[rws_len SetP.len]; exact Nat.le_refl _)
 have h1:SV.fz H.length [] (x::y::pactO H.length nm wh hid sets.length go p::setO sets::G) 3 (exN wh)=exN wh:=fz_under (exN_und _ _)
 simp only[setO]at h1
 simp[ActP.c,actV,setO,rws_len SetP.len,e,h1]
 exact le_agg (leL.cons (SV.le.refl _) (leL.cons (exN_le _) (leL.cons (SV.le.refl _) (leL.cons (SV.le.refl _) (leL.cons (SV.le.refl _) (leL.cons (SV.le.refl _) leL.nil))))))
theorem gotoR_no (hp:peekR c [103,111,116,111] r=false):gotoR c r=([],r):=by unfold gotoR; rw[if_neg (by simp[hp])]
theorem gotoR_yes (hp:peekR c [103,111,116,111] r=true):gotoR c r=gotoT c (nextR r):=by unfold gotoR gotoT; rw[if_pos hp,t2_acc hp]
theorem pact_t8 (hn:NumT c) (h20:c.ts.length≤20000) (hj:j<H.length) (hcl:closed H) (he:r.e=0) (ha:r.a≤c.ts.length) {G:List AO} {env:Env} {res:ActP×Rd}
 (hres:(⟨nm,wh,hid,sets,(gotoR c r).1,p⟩,(gotoR c r).2)=res) (h1:env.get 1=rp H.length) (h2:env.get 2=rp (H.length+1)) (h3:env.get 3=rp (H.length+2)) :
 X Tryz.prog Tryz.f182.ntmps drawB (IC.tl 8 i182) env (H.set j (pdO c r)++(bxO j::aZ::pactO H.length nm wh hid sets.length [] p::setO sets::G)) (FinP H.length r182 (PdV c H j actV res)):=by
 have hct:c.ts.length<4611686018427387904:=by omega
 have h202:=ok202 (H:=H.set j (pdO c r)++(bxO j::aZ::pactO H.length nm wh hid sets.length [] p::setO sets::G)) hn (F:=gotoT c) (f:=.fn (.func 201) [] [rp H.length]) rfl rfl (by simp[rp,SV.under,SV.underL]) (s:=[103,111,116,111]) rfl (s1_j hj (pdO c r) _) hct ha he
  (fun hp=>by
   have hlt:=peek_lt hp
   rw[s1_set hj]
   refine okCP_of (a:=[]) (b:=[rp H.length]) (by
    have:=ok201 (H:=H.set j (pdO c (nextR r))++(bxO j::aZ::pactO H.length nm wh hid sets.length [] p::setO sets::G)) (q:=H.length) hn hct (by simp) (s1_j hj (pdO c (nextR r)) _) he hlt
    simpa using this))
 have hy:=gotoR_yes (c:=c) (r:=r)
 have hno:=gotoR_no (c:=c) (r:=r)
 by_cases hp:peekR c [103,111,116,111] r=true
 · rw[if_pos hp]at h202
   rw[hy hp]at hres
   generalize gotoT c (nextR r)=g at h202 hres
   simp -implicitDefEqProofs[IC.tl,i182,r182,h1,h2,h3,rp,bxO]
   refine pd_call (by simpa[rp,bxO]using h202) (fun he1 => ?_) (fun he1 H' hk => ?_)
   · rw[s1_set hj]
     simp -implicitDefEqProofs[h1,h2,h3,rp,wdN,wds]
     refine li_go hm l182_1.eq_1 ?_
     simp -implicitDefEqProofs[h1,h2,h3,rp,pactO,aZ]
     refine li_go hm l182_1.eq_1 ?_
     simp -implicitDefEqProofs[h1,h2,h3,rp,pactO,aZ]
     refine⟨_,_,PdV.got (x:=⟨nm,wh,hid,sets,g.1,p⟩) he1 hres.symm rfl rfl,?_⟩
     have hc1:closed (H.set j (pdO c g.2)):=closed_pd (c:=c) (a:=g.2.a) (v:=g.2.v) hcl
     have:=pcv_act (nm:=nm) (wh:=wh) (hid:=hid) (sets:=sets) (p:=p) (go:=g.1) (x:=bxO j) (y:=⟨[st (B nm),exN wh,bl hid,.own (H.length+3) 0 sets.length 7 sets.length,st (B g.1),i64 p],89,0,true⟩) (G:=G) hc1
     simpa[pactO,bxO,rp]using this
   · simp -implicitDefEqProofs
     have hb:res.2=g.2:=by rw[←hres]
     rw[←hb]at he1 ⊢
     exact⟨_,_,PdV.pan he1 hk.of_set,cv_id⟩
 · rw[if_neg hp]at h202
   rw[Bool.not_eq_true]at hp
   rw[hno hp]at hres
   simp -implicitDefEqProofs[IC.tl,i182,r182,h1,h2,h3,rp,bxO]
   refine pd_call (by simpa[rp,bxO]using h202) (fun he1 => ?_) (fun he1 H' hk=>absurd he he1)
   rw[s1_set hj]
   have n1:(SV.val (Value.slice none 0 0)).isSl=true:=rfl
   have n2:(SV.val (Value.slice none 0 0)).slen=0:=rfl
   simp -implicitDefEqProofs[h1,h2,h3,rp,wdN,wds,n1,n2]
   refine li_go hm l182_1.eq_1 ?_
   simp -implicitDefEqProofs[h1,h2,h3,rp,pactO,aZ]
   refine⟨_,_,PdV.got (x:=⟨nm,wh,hid,sets,[],p⟩) he hres.symm rfl rfl,?_⟩
   have hc1:closed (H.set j (pdO c r)):=closed_pd (c:=c) (a:=r.a) (v:=r.v) hcl
   have:=pcv_act (nm:=nm) (wh:=wh) (hid:=hid) (sets:=sets) (p:=p) (go:=[]) (x:=bxO j) (y:=⟨[st (B nm),exN wh,bl hid,.own (H.length+3) 0 sets.length 7 sets.length,st (B []),i64 p],89,0,true⟩) (G:=G) hc1
   simpa[pactO,bxO,rp]using this
theorem pact_t6 (hn:NumT c) (h20:c.ts.length≤20000) (hj:j<H.length) (hcl:closed H) {d:Nat} {F:Rd->Ex×Rd} (hF:PdC c 32 [] F d) (hkF:Kp c d F) (hst:Still F) (hg:Gd c d r) (he:r.e=0) {G:List AO} {env:Env} {res:ActP×Rd}
 (hres:(fun s:List SetP×Rd=>((⟨nm,wh,hid,s.1,(gotoR c (t2 c [125] s.2)).1,p⟩,(gotoR c (t2 c [125] s.2)).2):ActP×Rd)) (setsL c F (c.ts.length+1) [] (t2 c [123] r))=res) (h1:env.get 1=rp H.length) (h2:env.get 2=rp (H.length+1)) (h3:env.get 3=rp (H.length+2)) :
 X Tryz.prog Tryz.f182.ntmps drawB (IC.tl 6 i182) env (H.set j (pdO c r)++(bxO j::aZ::pactO H.length nm wh hid 0 [] p::setO []::G)) (FinP H.length r182 (PdV c H j actV res)):=by
 have hct:c.ts.length<4611686018427387904:=by omega
 have tail:∀ (sets:List SetP) (r:Rd) (G:List AO) (env:Env),r.e=0->r.a≤c.ts.length->(⟨nm,wh,hid,sets,(gotoR c r).1,p⟩,(gotoR c r).2)=res->env.get 1=rp H.length->env.get 2=rp (H.length+1)->env.get 3=rp (H.length+2)->_:=fun sets r G env he ha hr h1 h2 h3=>pact_t8 (G:=G) hn h20 hj hcl he ha hr h1 h2 h3
 rw[show IC.tl 6 i182=.seq (IC.nth 6 i182) (IC.tl 7 i182)from rfl,show IC.tl 7 i182=.seq (IC.nth 7 i182) (IC.tl 8 i182)from rfl]
 generalize IC.tl 8 i182=t8 at tail ⊢
 have hw:=want_p (H:=H) (j:=j) (r:=r) (L:=bxO j::aZ::pactO H.length nm wh hid 0 [] p::setO []::(G++[⟨[st (B [123])],9,0,true⟩])) (q:=G.length+4) (n:=1) (T:=9) (ver:=0) (l:=[[123]]) hn hct hj (by simp[wds]) rfl (by simp) (by intro s hs; simp at hs; subst hs; rfl) he hg.a
 have hg1:=(t2_keep (c:=c) (d:=d) [123] hg).1
 simp -implicitDefEqProofs[IC.nth,i182,h1,h2,h3,rp,bxO]
 refine pd_call (by simpa[rp,bxO,pactO]using hw) (fun he1 => ?_) (fun he1 H' hk => ?_)
 · rw[s1_set hj]
   simp only[wantR1]at he1 ⊢
   generalize t2 c [123] r=r1 at hg1 he1 hres ⊢
   simp -implicitDefEqProofs[h1,h2,h3]
   generalize hs:setsL c F (c.ts.length+1) [] r1=s at hres
   refine LI.cong (H':=H.set j (pdO c r1)++(bxO j::aZ::pactO H.length nm wh hid ([]:List SetP).length [] p::setO []::(G++[⟨[st (B [123])],9,0,true⟩]))) (by simp[bxO,rp]) ?_
   refine loop182 hn h20 hj hF hkF hst (res:=s) (fun env G hs0 hp hgs h1 h2 h3 => ?_) (fun hs0 env H' hk => ?_) (c.ts.length+1) [] r1 _ _ (by omega) (by simp) hs hg1 he1 ?_ ?_ ?_
   · simp -implicitDefEqProofs
     exact tail s.1 (nextR s.2) G env hs0 (peek_lt hp) (by rw[←hres]; simp only[t2_acc hp]) h1 h2 h3
   · simp -implicitDefEqProofs
     have hb:res.2=s.2:=by
      rw[←hres]
      simp only[t2_still _ hs0,goto_still _ hs0]
     rw[←hb]at hs0 ⊢
     exact⟨_,_,PdV.pan hs0 hk,cv_id⟩
   all_goals simp[h1,h2,h3,rp]
 · simp -implicitDefEqProofs
   rw[wantR1]at he1
   have hb:res.2=t2 c [123] r:=by
    rw[←hres,sets_bad he1]
    simp only[t2_still _ he1,goto_still _ he1]
   simp only[wantR1]
   rw[←hb]at he1 ⊢
   exact⟨_,_,PdV.pan he1 hk.of_set,cv_id⟩
theorem flagR_eq (s:List UInt8):flagR c s r=(peekR c s r,accR c s r):=by
 unfold flagR accR
 by_cases hp:peekR c s r=true
 · rw[if_pos hp,if_pos hp,t2_acc hp,hp]
 · rw[if_neg hp,if_neg hp]; rw[Bool.not_eq_true]at hp; rw[hp]
theorem pact_t2 (hn:NumT c) (h20:c.ts.length≤20000) (hj:j<H.length) (hcl:closed H) {d:Nat} {F:Rd->Ex×Rd} (hF:PdC c 32 [] F d) (hkF:Kp c d F) (hst:Still F) (hg:Gd c d r) (he:r.e=0) {env:Env} {res:ActP×Rd}
 (hres:actR c F r=res) (h1:env.get 1=rp H.length) (h2:env.get 2=rp (H.length+1)) (h3:env.get 3=rp (H.length+2)) :
 X Tryz.prog Tryz.f182.ntmps drawB (IC.tl 2 i182) env (H.set j (pdO c r)++(bxO j::aZ::pactO H.length [] [] false 0 [] (hereR c r)::setO []::[])) (FinP H.length r182 (PdV c H j actV res)):=by
 have hct:c.ts.length<4611686018427387904:=by omega
 have tail:∀ (nm:List UInt8) (wh:List Ex) (hid:Bool) (r':Rd) (G:List AO) (env:Env),Gd c d r'->r'.e=0->_->env.get 1=rp H.length->env.get 2=rp (H.length+1)->env.get 3=rp (H.length+2)->_:=fun nm wh hid r' G env hg he hr h1 h2 h3=>pact_t6 (G:=G) (nm:=nm) (wh:=wh) (hid:=hid) (p:=hereR c r) (r:=r') (res:=res) hn h20 hj hcl hF hkF hst hg he hr h1 h2 h3
 have bad:∀ rf:Rd,rf.e≠0->res.2=rf->∀ H',Keep H [j] H'->PdV c H j actV res (.pan (fltI rf.e rf.p)) H':=by
  intro rf hf hs H' hk
  rw[←hs]at hf ⊢
  exact PdV.pan hf hk
 unfold actR at hres
 simp only[takeR_fst,t2_eq]at hres
 rw[show IC.tl 2 i182=.seq (IC.nth 2 i182) (IC.tl 3 i182)from rfl,show IC.tl 3 i182=.seq (IC.nth 3 i182) (IC.tl 4 i182)from rfl,show IC.tl 4 i182=.seq (IC.nth 4 i182) (IC.tl 5 i182)from rfl,show IC.tl 5 i182=.seq (IC.nth 5 i182) (IC.tl 6 i182)from rfl]
 generalize IC.tl 6 i182=t6 at tail ⊢
 generalize hereR c r=pp at tail hres ⊢
 have hw:=want_p (H:=H) (j:=j) (r:=r) (L:=bxO j::aZ::pactO H.length [] [] false 0 [] pp::setO []::[⟨[st (B [97,99,116,105,111,110])],9,0,true⟩]) (q:=4) (n:=1) (T:=9) (ver:=0) (l:=[[97,99,116,105,111,110]]) hn hct hj (by simp[wds]) rfl (by simp) (by intro s hs; simp at hs; subst hs; rfl) he hg.a
 have hg1:=(t2_keep (c:=c) (d:=d) [97,99,116,105,111,110] hg).1
 simp -implicitDefEqProofs[IC.nth,i182,h1,h2,h3,rp,bxO]
 refine pd_call (by simpa[rp,bxO,pactO]using hw) (fun he1 => ?_) (fun he1 H' hk => ?_)
 · rw[s1_set hj]
   simp only[wantR1]at he1 ⊢
   generalize t2 c [97,99,116,105,111,110] r=r1 at hg1 he1 hres ⊢
   have h88:=fun L=>ok88p (c:=c) (r:=r1) hj (by have:=hg1.a; omega) he1 L false
   simp only[wordF_off]at h88
   have hg2:=(word_keep (c:=c) (d:=d) r1 hg1).1
   simp -implicitDefEqProofs[h1,h2,h3,rp,pactO,bxO]
   generalize wordR c r1=w at hg2 h88 hres
   refine pd_call (by simpa[rp]using h88 _) (fun he2 => ?_) (fun he2 H' hk => ?_)
   · rw[s1_set hj]
     simp -implicitDefEqProofs[h1,h2,h3,rp]
     have h181:=fun L=>ok181 hn hF (s:=[119,104,101,110]) rfl (s1_j hj (pdO c w.2) L) hct hg2 he2
     have hg3:=(optR_keep hkF [119,104,101,110] _ hg2).1
     generalize optR c F [119,104,101,110] w.2=q3 at hg3 h181 hres
     refine pd_call (by simpa[rp]using h181 _) (fun he3 => ?_) (fun he3 H' hk => ?_)
     · rw[s1_set hj]
       simp -implicitDefEqProofs[h1,h2,h3,rp]
       have h90:=fun L=>ok90p (c:=c) (r:=q3.2) hn hj (by have:=hg3.a; omega) he3 L (s:=[104,105,100,100,101,110]) rfl
       have hg4:=(flagR_keep [104,105,100,100,101,110] _ hg3).1
       have he4:(accR c [104,105,100,100,101,110] q3.2).e=0:=by unfold accR; split<;>exact he3
       refine call_go (by simpa[rp]using h90 _) ?_
       rw[flagR_eq]at hg4 hres
       simp -implicitDefEqProofs[h1,h2,h3,rp]
       refine Xc ?_ (tail w.1 q3.1 (peekR c [104,105,100,100,101,110] q3.2) (accR c [104,105,100,100,101,110] q3.2) [⟨[st (B [97,99,116,105,111,110])],9,0,true⟩] _ hg4 he4 hres ?_ ?_ ?_)
       · simp[bxO,pactO,rp,setO,rws]
       all_goals simp[h1,h2,h3,rp]
     · simp -implicitDefEqProofs
       refine⟨_,_,bad _ he3 ?_ _ hk.of_set,cv_id⟩
       rw[←hres]
       simp only[flag_still _ _ he3,t2_still _ he3,sets_bad he3,goto_still _ he3]
   · simp -implicitDefEqProofs
     refine⟨_,_,bad _ he2 ?_ _ hk.of_set,cv_id⟩
     rw[←hres]
     simp only[opt_still _ _ he2,flag_still _ _ he2,t2_still _ he2,sets_bad he2,goto_still _ he2]
 · simp -implicitDefEqProofs
   rw[wantR1]at he1
   refine⟨_,_,bad _ he1 ?_ _ hk.of_set,cv_id⟩
   rw[←hres]
   simp only[word_still _ he1,opt_still _ _ he1,flag_still _ _ he1,t2_still _ he1,sets_bad he1,goto_still _ he1]
theorem ok182 (hn:NumT c) (h20:c.ts.length≤20000) {d:Nat} {F:Rd->Ex×Rd} (hF:PdC c 32 [] F d) (hkF:Kp c d F) (hst:Still F) (ho:H[j]? = some (pdO c r)) (hg:Gd c d r) (he:r.e=0):OkP Tryz.prog 182 [rp j] H (PdV c H j actV (actR c F r)):=by
 have hj:=getElem?_lt ho
 have h91:=fun L=>ok91 (H:=H++L) (c:=c) (r:=r) (j:=j) (by rw[List.getElem?_append_left hj]; exact ho)
 refine okP_WI hm Tryz.func182 c182 (by simp[rp,SV.under,hj]) fun hcl => ?_
 have tail:∀ env:Env,env.get 1=rp H.length->env.get 2=rp (H.length+1)->env.get 3=rp (H.length+2)->_:=fun env h1 h2 h3=>pact_t2 (r:=r) (res:=actR c F r) hn h20 hj hcl hF hkF hst hg he rfl h1 h2 h3
 rw[show i182=.seq (IC.nth 0 i182) (.seq (IC.nth 1 i182) (IC.tl 2 i182))from rfl]
 generalize IC.tl 2 i182=t2' at tail ⊢
 refine WI.seq (draw_ok hm) ?_
 simp -implicitDefEqProofs[IC.nth,i182,rp]
 refine WI.seq (draw_ok hm) ?_
 simp -implicitDefEqProofs[IC.nth,i182,rp]
 refine call_go (by simpa[rp]using h91 _) ?_
 simp -implicitDefEqProofs
 refine⟨rfl,WI.tell (Tell.own0 (j:=H.length+2) (p:=3) (o:=⟨[st (B []),nl,bl false,nl,st (B []),i64 (hereR c r)],89,0,true⟩) (by simp) rfl rfl 91 7) ?_⟩
 refine WI.cong (H':=H.set j (pdO c r)++(bxO j::aZ::pactO H.length [] [] false 0 [] (hereR c r)::setO []::[])) ?_ ?_
 · rw[set_same ho]
   simp[aZ,pactO,setO,rws,bxO,rp,exN]
 · exact WI.of_X (draw_ok hm) (tail _ (by simp[rp]) (by simp[rp]) (by simp[rp]))
end
end Go.Proofs.YtmkdpmfhlfhjkaaGreatDoor
namespace Go.Proofs.YtmkdpmfhlfhjkaaGreatDoor
open Go.Ab
section
variable {H:List AO} {c:Cx} {r:Rd} {j k:Nat} {lb:List UInt8} {p:Int} {F:Rd->Ex×Rd}
theorem is_at (hJ:J2 H j k) {p:AO} {L:List AO} {q n T ver:Nat} {l:List (List UInt8)} (hL:L[q]? = some ⟨wds l,T,ver,true⟩) (hn':n=l.length) (hl:l.length<4611686018427387904) :
 Ok Tryz.prog 93 [rp j,.own (H.length+q) 0 n 1 ver] (w2 H j k (pdO c r) p++L) (.ret (bl (decide ((tkR c r).tx∈l)))) (w2 H j k (pdO c r) p++L):=by
 have:=IsS.own1 (H:=w2 H j k (pdO c r) p) hL hn'
 exact ok93 (w2_j hJ L) (by simpa using this) hl
theorem is_one (hn:NumT c) (hJ:J2 H j k) {p:AO} {L:List AO} {q:Nat} {s:List UInt8} (hs:wrdB s=true) (he:r.e=0) (hL:L[q]? = some ⟨[st (B s)],9,0,true⟩) :
 Ok Tryz.prog 93 [rp j,.own (H.length+q) 0 1 1 0] (w2 H j k (pdO c r) p++L) (.ret (bl (peekR c s r))) (w2 H j k (pdO c r) p++L):=by
 have:=is_at (c:=c) (r:=r) hJ (p:=p) (L:=L) (q:=q) (n:=1) (T:=9) (ver:=0) (l:=[s]) hL rfl (by simp)
 rwa [mem_peek hn hs he]at this
def turnT (c:Cx) (F:Rd->Ex×Rd) (lb:List UInt8) (p:Int) (r:Rd):StageP×Rd :=
 let w:=F r
 let a:=actR c F (t2 c [123] w.2)
 let l:=actsL c F 0 c.ts.length [a.1] a.2
 (⟨2,lb,[],0,0,[],false,[],[w.1],l.1,[],p⟩,t2 c [125] l.2)
theorem turnT_eq (r:Rd):turnR c F { zStage with lb:=lb } r=turnT c F lb (hereR c r) (t2 c [116,117,114,110] r):=by
 unfold turnR turnT
 simp only[zStage,takeR_fst,t2_eq]
def tnC (lb:List UInt8) (n m:Nat) (p:Int):List SV:=[i64 2,st (B lb),st (B []),i64 0,i64 0,nl,bl false,nl,.own n 0 1 5 0,.own (n+2) 0 m 6 m,nl,i64 p]
def tnL (w:Ex) (l:List ActP) (G:List AO):List AO:=⟨w.c,25,0,true⟩::⟨[st (B [123])],9,0,true⟩::⟨rws ActP.c l,89,l.length,true⟩::G
def k148:IC:=match l148_0 with | .keep _ a=>a | a=>a
set_option maxHeartbeats 2000000 in
theorem round148 (hn:NumT c) (h20:c.ts.length≤20000) (hJ:J2 H j k) {d:Nat} (hF:PdC c 32 [] F d) (hkF:Kp c d F) (hst:Still F) {w:Ex} {N:Nat} {K:XE->Env->List AO->Prop} (hg:Gd c d r) (he:r.e=0) {l:List ActP} (hlr:l.length≤r.a) {G:List AO} {env:Env}
 (h0:env.get 0=rp j) (h1:env.get 1=rp k)
 (hexit:l≠[]->peekR c [97,99,116,105,111,110] r=false->∀ env G,env.get 0=rp j->env.get 1=rp k->K (.exit 0) env (w2 H j k (pdO c r) ⟨tnC lb H.length l.length p,78,0,true⟩++tnL w l G))
 (hnext:peekR c [97,99,116,105,111,110] r=true->l.length≠10->(actR c F r).2.e=0->∀ env G,env.get 0=rp j->env.get 1=rp k->LI Tryz.prog N drawB l148_0 env (w2 H j k (pdO c (actR c F r).2) ⟨tnC lb H.length (l.length+1) p,78,0,true⟩++tnL w (l++[(actR c F r).1]) G) K)
 (hbad:∀ rf:Rd,rf.e≠0->(l=[]∧peekR c [97,99,116,105,111,110] r=false∧rf=failR c 11 r)∨(peekR c [97,99,116,105,111,110] r=true∧l.length=10∧rf=failR c 12 r)∨(peekR c [97,99,116,105,111,110] r=true∧l.length≠10∧rf=(actR c F r).2)->∀ env H',Keep H [j,k] H'->K (.panic (fltI rf.e rf.p)) env H') :
 LI Tryz.prog N drawB l148_0 env (w2 H j k (pdO c r) ⟨tnC lb H.length l.length p,78,0,true⟩++tnL w l G) K:=by
 have hct:c.ts.length<4611686018427387904:=by omega
 have ha:=hg.a
 have e2:=fun o cs L f=>w2_sok (o:=o) (p:=⟨cs,78,0,true⟩) hJ L f
 have e3:=fun o cs L=>w2_ock (o:=o) hJ cs 78 L
 have h79:=fun p L e=>ok79 (w2_j (o:=pdO c r) (p:=p) hJ L) e
 have h182:=fun p L=>ok182 hn h20 hF hkF hst (w2_j (o:=pdO c r) (p:=p) hJ L) hg he
 have is1:∀ (p:AO) (L:List AO) (q:Nat),L[q]? = some ⟨[st (B [97,99,116,105,111,110])],9,0,true⟩->Ok Tryz.prog 93 [rp j,.own (H.length+q) 0 1 1 0] (w2 H j k (pdO c r) p++L) (.ret (bl (peekR c [97,99,116,105,111,110] r))) (w2 H j k (pdO c r) p++L):=fun p L q hL=>is_one hn hJ (s:=[97,99,116,105,111,110]) rfl he hL
 have f11:(failR c 11 r).e=11∧(failR c 11 r).p=hereR c r:=by simp[failR,he]
 have f12:(failR c 12 r).e=12∧(failR c 12 r).p=hereR c r:=by simp[failR,he]
 have hb11:=hbad (failR c 11 r) (by rw[f11.1]; decide)
 have hb12:=hbad (failR c 12 r) (by rw[f12.1]; decide)
 rw[f11.1,f11.2]at hb11
 rw[f12.1,f12.2]at hb12
 have hcode:l148_0=.keep [0,1] (.seq (IC.nth 0 k148) (IC.nth 1 k148)):=rfl
 refine li_go hm hcode ?_
 generalize hK:(fun(x:XE) (env:Env) (H:List AO)=>match x with | .normal=>LI Tryz.prog N drawB l148_0 env H K | x=>K x env H)=K'
 have hKn:∀ env H,K' .normal env H=LI Tryz.prog N drawB l148_0 env H K:=fun env H=>by rw[←hK]
 have hKp:∀ x env H,K' (.panic x) env H=K (.panic x) env H:=fun x env H=>by rw[←hK]
 have hKe:∀ n env H,K' (.exit n) env H=K (.exit n) env H:=fun n env H=>by rw[←hK]
 clear hK
 have body:∀ (env:Env) (G:List AO),env.get 0=rp j->env.get 1=rp k->(l=[]∨peekR c [97,99,116,105,111,110] r=true) →
  X Tryz.prog N drawB (IC.nth 1 k148) env (w2 H j k (pdO c r) ⟨tnC lb H.length l.length p,78,0,true⟩++tnL w l G) K':=by
  intro env G h0 h1 hc
  simp -implicitDefEqProofs[IC.nth,k148,l148_0,h0,h1,rp,e2,e3,tnC,tnL]
  refine call_go (by simpa[rp,tnC,tnL]using is1 ⟨tnC lb H.length l.length p,78,0,true⟩ (tnL w l (G++[⟨[st (B [97,99,116,105,111,110])],9,0,true⟩])) (G.length+3) (by simp[tnL])) ?_
  by_cases hp:peekR c [97,99,116,105,111,110] r=true
  · simp -implicitDefEqProofs[h0,h1,rp,e2,e3,hp]
    by_cases h10:l.length=10
    · have h10':(l.length:Int)=10:=by omega
      simp -implicitDefEqProofs[h0,h1,rp,e2,e3,h10']
      refine call_go (by simpa[rp,tnC,tnL]using h79 _ _ 12) ?_
      simp -implicitDefEqProofs
      rw[hKp]
      exact hb12 (.inr (.inl ⟨hp,h10,rfl⟩)) _ _ (Keep.w2 hJ (Keep.refl _ _))
    · have h10':¬ (l.length:Int)=10:=by omega
      have hb3:=fun h=>hbad (actR c F r).2 h (.inr (.inr ⟨hp,h10,rfl⟩))
      have hn3:=hnext hp h10
      simp -implicitDefEqProofs[h0,h1,rp,e2,e3,h10']
      generalize actR c F r=a at h182 hb3 hn3
      refine pd_call (by simpa[rp]using h182 _ _) (fun he1 => ?_) (fun he1 H' hk => ?_)
      · rw[w2_setj hJ]
        simp -implicitDefEqProofs[h0,h1,rp,e2,e3,actV,rws_len ActP.c_len]
        refine⟨by omega,by omega,?_⟩
        rw[hKn]
        refine LI.cong ?_ (hn3 he1 _ (G++[⟨[st (B [97,99,116,105,111,110])],9,0,true⟩,⟨a.1.c,89,0,true⟩]) ?_ ?_)
        · simp[tnC,tnL,rws_app,rws]
        all_goals simp[h0,h1,rp]
      · simp -implicitDefEqProofs
        rw[hKp]
        exact hb3 he1 _ _ (hk.w2 hJ)
  · have hl0:=hc.resolve_right hp
    rw[Bool.not_eq_true]at hp
    simp -implicitDefEqProofs[h0,h1,rp,e2,e3,hp]
    refine call_go (by simpa[rp,tnC,tnL]using h79 _ _ 11) ?_
    simp -implicitDefEqProofs
    rw[hKp]
    exact hb11 (.inl ⟨hl0,hp,rfl⟩) _ _ (Keep.w2 hJ (Keep.refl _ _))
 generalize IC.nth 1 k148=B1 at body ⊢
 by_cases hl0:l=[]
 · subst hl0
   simp -implicitDefEqProofs[IC.nth,k148,l148_0,h0,h1,rp,e2,e3,tnC,tnL]
   refine callq_off _ _ _ _ ?_
   simp -implicitDefEqProofs[h0,h1,rp]
   exact body _ G (by simp[rp]) (by simp[rp]) (.inl rfl)
 · simp -implicitDefEqProofs[IC.nth,k148,l148_0,h0,h1,rp,e2,e3,tnC,tnL,hl0]
   refine callq_st (r:=bl (peekR c [97,99,116,105,111,110] r)) (fun _=>by simpa[rp,tnC,tnL,SV.strip]using is1 ⟨tnC lb H.length l.length p,78,0,true⟩ (tnL w l (G++[⟨[st (B [97,99,116,105,111,110])],9,0,true⟩])) (G.length+3) (by simp[tnL])) ?_
   by_cases hp:peekR c [97,99,116,105,111,110] r=true
   · simp -implicitDefEqProofs[h0,h1,rp,hp,hl0]
     refine Xc ?_ (body _ (G++[⟨[st (B [97,99,116,105,111,110])],9,0,true⟩]) (by simp[rp]) (by simp[rp]) (.inr hp))
     simp[tnC,tnL]
   · rw[Bool.not_eq_true]at hp
     simp -implicitDefEqProofs[h0,h1,rp,hp,hl0]
     rw[hKe]
     refine hexit hl0 hp _ (G++[⟨[st (B [97,99,116,105,111,110])],9,0,true⟩]) ?_ ?_<;>simp[rp]
theorem acts_bad {n:Nat} {l:List ActP} (h:r.e≠0):actsL c F 0 n l r=(l,r):=by
 cases n with
 | zero=>rfl
 | succ n=>rw[actsL,if_neg (by rw[peek_bad h]; decide)]
theorem loop148 (hn:NumT c) (h20:c.ts.length≤20000) (hJ:J2 H j k) {d:Nat} (hF:PdC c 32 [] F d) (hkF:Kp c d F) (hst:Still F) {w:Ex} {N:Nat} {K:XE->Env->List AO->Prop} {res:List ActP×Rd}
 (hexit:res.2.e=0->Gd c d res.2->∀ env G,env.get 0=rp j->env.get 1=rp k->K (.exit 0) env (w2 H j k (pdO c res.2) ⟨tnC lb H.length res.1.length p,78,0,true⟩++tnL w res.1 G))
 (hpan:res.2.e≠0->∀ env H',Keep H [j,k] H'->K (.panic (fltI res.2.e res.2.p)) env H') :
 ∀ (n:Nat) (l:List ActP) (r:Rd) (G:List AO) (env:Env),c.ts.length≤r.a+n->l≠[]->l.length≤r.a->actsL c F 0 n l r=res->Gd c d r->r.e=0->env.get 0=rp j->env.get 1=rp k →
  LI Tryz.prog N drawB l148_0 env (w2 H j k (pdO c r) ⟨tnC lb H.length l.length p,78,0,true⟩++tnL w l G) K:=by
 intro n
 induction n with
 | zero =>
  intro l r G env hna hl hlr hr hg he h0 h1
  have hp:peekR c [97,99,116,105,111,110] r=false:=by rw[←Bool.not_eq_true]; intro h; have:=peek_lt h; omega
  rw[actsL]at hr
  subst hr
  refine round148 hn h20 hJ hF hkF hst hg he hlr h0 h1 (fun _ _=>hexit he hg) (fun h=>by rw[hp]at h; cases h) (fun rf _ h => ?_)
  rcases h with h | h | h
  · exact absurd h.1 hl
  · rw[hp]at h; cases h.1
  · rw[hp]at h; cases h.1
 | succ n ih =>
  intro l r G env hna hl hlr hr hg he h0 h1
  rw[actsL]at hr
  by_cases hp:peekR c [97,99,116,105,111,110] r=true
  · rw[if_pos hp]at hr
    simp only at hr
    have hlt:=peek_lt hp
    have ht:(takeR c [97,99,116,105,111,110] r).2=nextR r:=by simp[takeR,hp]
    have hstr:r.a+1≤(actR c F r).2.a:=by
     have:=act_from hkF (r:=r) (by rw[ht]; exact hg.next hlt)
     rw[ht]at this
     exact this
    obtain⟨k1,k2⟩:=actR_keep hkF r hg
    refine round148 hn h20 hJ hF hkF hst hg he hlr h0 h1 (fun _ h=>by rw[hp]at h; cases h) (fun _ h10 he1 env G h0 h1 => ?_) (fun rf hf h => ?_)
    · rw[if_neg h10]at hr
      refine LI.cong ?_ (ih (l++[(actR c F r).1]) (actR c F r).2 G env (by omega) (by simp) (by simp; omega) hr k1 he1 h0 h1)
      simp
    · rcases h with h | h | h
      · exact absurd h.1 hl
      · rw[if_pos h.2.1,<- h.2.2]at hr
        have hb:(actR c F rf).2=rf:=act_still rf hf
        rw[acts_bad (by rw[hb]; exact hf),hb]at hr
        have:res.2=rf:=by rw[←hr]
        rw[←this]at hf ⊢
        exact hpan hf
      · rw[if_neg h.2.1,<- h.2.2,acts_bad hf]at hr
        have:res.2=rf:=by rw[←hr]
        rw[←this]at hf ⊢
        exact hpan hf
  · rw[if_neg hp]at hr
    rw[Bool.not_eq_true]at hp
    subst hr
    refine round148 hn h20 hJ hF hkF hst hg he hlr h0 h1 (fun _ _=>hexit he hg) (fun h=>by rw[hp]at h; cases h) (fun rf _ h => ?_)
    rcases h with h | h | h
    · exact absurd h.1 hl
    · rw[hp]at h; cases h.1
    · rw[hp]at h; cases h.1
theorem act_no (he:r.e=0) (hp:peekR c [97,99,116,105,111,110] r=false):(actR c F r).2=failR c 11 r:=by
 have hb:(failR c 11 r).e≠0:=by simp[failR,he]
 have ht:t2 c [97,99,116,105,111,110] r=failR c 11 r:=by simp[t2,takeR,hp]
 unfold actR
 simp only[t2_eq,ht,word_still _ hb,opt_still _ _ hb,flag_still _ _ hb,t2_still _ hb,sets_bad hb,goto_still _ hb]
end
end Go.Proofs.YtmkdpmfhlfhjkaaGreatDoor
namespace Go.Proofs.YtmkdpmfhlfhjkaaGreatDoor
open Go.Ab
section
variable {H:List AO} {c:Cx} {r:Rd} {j k:Nat} {lb:List UInt8} {p:Int} {F:Rd->Ex×Rd}
theorem acts_len:∀ (n:Nat) (l:List ActP) (r:Rd),l.length≤(actsL c F 0 n l r).1.length
 | 0,l,r=>Nat.le_refl _
 | n+1,l,r=>by
  rw[actsL]
  split
  · have:=acts_len n (l++[(actR c F (if l.length=10 then failR c 12 r else r)).1]) (actR c F (if l.length=10 then failR c 12 r else r)).2
    simp only[List.length_append,List.length_cons,List.length_nil]at this
    simp only
    omega
  · exact Nat.le_refl _
theorem pturn_t4 (hn:NumT c) (h20:c.ts.length≤20000) (hcl:closed H) (hJ:J2 H j k) (he:r.e=0) (ha:r.a≤c.ts.length) {w:Ex} {l:List ActP} (hl0:l≠[]) {G:List AO} {env:Env} (h0:env.get 0=rp j) {res:StageP×Rd}
 (hres:(⟨2,lb,[],0,0,[],false,[],[w],l,[],p⟩,t2 c [125] r)=res) :
 X Tryz.prog Tryz.f148.ntmps drawB (IC.tl 4 i148) env (w2 H j k (pdO c r) ⟨tnC lb H.length l.length p,78,0,true⟩++tnL w l G) (FinP H.length r148 (PdS c H j k res)):=by
 have hct:c.ts.length<4611686018427387904:=by omega
 subst hres
 have hw:=want_at (p:=⟨tnC lb H.length l.length p,78,0,true⟩) (L:=tnL w l (G++[⟨[st (B [125])],9,0,true⟩])) (q:=G.length+3) (n:=1) (T:=9) (ver:=0) (l:=[[125]]) hn hct hJ (by simp[wds,tnL]) rfl (by simp) (by intro s hs; simp at hs; subst hs; rfl) he ha
 simp -implicitDefEqProofs[IC.tl,i148,r148,h0,rp,tnL]
 refine pd_call (by simpa[rp,tnL]using hw) (fun he2 => ?_) (fun he2 H' hk => ?_)
 · rw[w2_setj hJ]
   simp -implicitDefEqProofs
   rw[wantR1]at he2 ⊢
   refine⟨_,_,PdS.ret (q:=(⟨2,lb,[],0,0,[],false,[],[w],l,[],p⟩,t2 c [125] r)) he2 rfl,?_⟩
   refine st_cv (L:=tnL w l (G++[⟨[st (B [125])],9,0,true⟩])) rfl hcl hJ ?_
   have e1:=(Rw.own (n:=H.length) (q:=0) (m:=1) (sz:=5) (ver:=0) (T:=25) (L:=tnL w l (G++[⟨[st (B [125])],9,0,true⟩])) (cells:=w.c) rfl (by simp) (Ex.und _ w)).fz [] 1
   have e2:=(Rw.own (n:=H.length) (q:=2) (m:=l.length) (sz:=6) (ver:=l.length) (T:=89) (L:=tnL w l (G++[⟨[st (B [125])],9,0,true⟩])) (cells:=rws ActP.c l) rfl (rws_len ActP.c_len l) (rws_under (ActP.und _) l)).fz [] 1
   simp only[List.append_nil,Nat.add_zero]at e1 e2
   simp only[tnC,List.map_cons,List.map_nil,StageP.cN,e1,e2]
   simp[exN,acN,inN,hl0,exS,Ex.cL]
 · simp -implicitDefEqProofs
   exact⟨_,_,PdS.pan (q:=(⟨2,lb,[],0,0,[],false,[],[w],l,[],p⟩,t2 c [125] r)) he2 (hk.w2 hJ),cv_id⟩
theorem ok148 (hn:NumT c) (h20:c.ts.length≤20000) (hJ:J2 H j k) {d:Nat} (hF:PdC c 32 [] F d) (hkF:Kp c d F) (hst:Still F) (ho:H[j]? = some (pdO c r)) (hk0:H[k]? = some ⟨sC lb p,78,0,true⟩) (hg:Gd c d r) (he:r.e=0) :
 OkP Tryz.prog 148 [rp j,rp k] H (PdS c H j k (turnT c F lb p r)):=by
 have hct:c.ts.length<4611686018427387904:=by omega
 have ha:=hg.a
 have e2n:=fun o cs f=>w2_sok0 (o:=o) (p:=⟨cs,78,0,true⟩) hJ f
 have e3n:=fun o cs=>w2_ock0 (o:=o) hJ cs 78
 have e2:=fun o cs L f=>w2_sok (o:=o) (p:=⟨cs,78,0,true⟩) hJ L f
 have e3:=fun o cs L=>w2_ock (o:=o) hJ cs 78 L
 refine okP_fn hm Tryz.func148 c148 (by simp[rp,SV.under,hJ.lj,hJ.lk]) fun hcl => ?_
 refine Xc (H':=w2 H j k (pdO c r) ⟨sC lb p,78,0,true⟩) (w2_same ho hk0) ?_
 have tail:∀ (w:Ex) (l:List ActP) (r:Rd) (G:List AO) (env:Env) (res:StageP×Rd),r.e=0->r.a≤c.ts.length->l≠[]->env.get 0=rp j->_->_:=fun w l r G env res he ha hl0 h0 hr=>pturn_t4 (lb:=lb) (p:=p) (G:=G) (env:=env) (res:=res) (w:=w) (l:=l) hn h20 hcl hJ he ha hl0 h0 hr
 rw[show i148=.seq (IC.nth 0 i148) (.seq (IC.nth 1 i148) (.seq (IC.nth 2 i148) (.seq (IC.nth 3 i148) (IC.tl 4 i148))))from rfl]
 generalize IC.tl 4 i148=t4 at tail ⊢
 generalize hres:turnT c F lb p r=res
 unfold turnT at hres
 have bad:∀ rf:Rd,rf.e≠0->res.2=rf->∀ H',Keep H [j,k] H'->PdS c H j k res (.pan (fltI rf.e rf.p)) H':=by
  intro rf hf hs H' hk
  rw[←hs]at hf ⊢
  exact PdS.pan hf hk
 have hc:=fun p=>hF (w2_j0 (o:=pdO c r) (p:=p) hJ) hg he
 have hg1:=(hkF _ hg).1
 simp -implicitDefEqProofs[IC.nth,i148,r148,rp,e2n,e3n,sC]
 refine call_goP (by simpa[rp]using hc _) ?_
 intro o H' hq
 unfold PdP PdV at hq
 generalize F r=q at hq hg1 hres
 by_cases he1:q.2.e=0
 · rw[if_pos he1]at hq
   obtain⟨rfl,rfl⟩:=hq
   rw[w2_setj0 hJ]
   have hw:=want_at (p:=⟨[i64 2,st (B lb),st (B []),i64 0,i64 0,nl,bl false,nl,.own H.length 0 1 5 0,nl,nl,i64 p],78,0,true⟩) (L:=[⟨q.1.c,25,0,true⟩,⟨[st (B [123])],9,0,true⟩]) (q:=1) (n:=1) (T:=9) (ver:=0) (l:=[[123]]) hn hct hJ (by simp[wds]) rfl (by simp) (by intro s hs; simp at hs; subst hs; rfl) he1 hg1.a
   have hg2:=(t2_keep (c:=c) (d:=d) [123] hg1).1
   simp -implicitDefEqProofs[rp,e2,e3,Ex.v]
   refine pd_call (by simpa[rp]using hw) (fun he2 => ?_) (fun he2 H' hk => ?_)
   · rw[w2_setj hJ]
     simp only[wantR1]at he2 ⊢
     try simp only at hres
     have hno:=act_no (c:=c) (r:=t2 c [123] q.2) (F:=F) he2
     generalize t2 c [123] q.2=r2 at hg2 he2 hres hno ⊢
     have hka:=actR_keep hkF r2 hg2
     simp -implicitDefEqProofs[rp]
     refine LI.tell (Tell.own0 (j:=k) (p:=9) (o:=⟨[i64 2,st (B lb),st (B []),i64 0,i64 0,nl,bl false,nl,.own H.length 0 1 5 0,nl,nl,i64 p],78,0,true⟩) (w2_k hJ _) rfl rfl 89 6) ?_
     rw[w2_setk hJ]
     refine LI.cong (H':=w2 H j k (pdO c r2) ⟨tnC lb H.length ([]:List ActP).length p,78,0,true⟩++tnL q.1 [] []) (by simp[tnC,tnL,rws]) ?_
     refine round148 hn h20 hJ hF hkF hst hg2 he2 (by simp) (by simp[rp]) (by simp[rp]) (fun h=>absurd rfl h) (fun hp _ he3 env G h0 h1 => ?_) (fun rf hf h env H' hk => ?_)
     · have hpos:1≤(actR c F r2).2.a:=by
        have ht:(takeR c [97,99,116,105,111,110] r2).2=nextR r2:=by simp[takeR,hp]
        have:=act_from hkF (r:=r2) (by rw[ht]; exact hg2.next (peek_lt hp))
        rw[ht]at this
        simp only[nextR]at this
        omega
       generalize actR c F r2=a at he3 hres hka hpos ⊢
       try simp only at hres
       generalize hs:actsL c F 0 c.ts.length [a.1] a.2=s at hres
       refine LI.cong (H':=w2 H j k (pdO c a.2) ⟨tnC lb H.length [a.1].length p,78,0,true⟩++tnL q.1 [a.1] G) (by simp) ?_
       have hsl:s.1≠[]:=by
        have:=acts_len (c:=c) (F:=F) c.ts.length [a.1] a.2
        rw[hs]at this
        intro h
        rw[h]at this
        simp at this
       refine loop148 hn h20 hJ hF hkF hst (res:=s) (fun hs0 hgs env G h0 h1 => ?_) (fun hs0 env H' hk => ?_) c.ts.length [a.1] a.2 G env (by omega) (by simp) (by simpa using hpos) hs hka.1 he3 h0 h1
       · simp -implicitDefEqProofs
         exact tail q.1 s.1 s.2 G env res hs0 hgs.a hsl h0 hres
       · simp -implicitDefEqProofs
         exact⟨_,_,bad s.2 hs0 (by rw[←hres]; simp only[t2_still _ hs0]) _ hk,cv_id⟩
     · simp -implicitDefEqProofs
       have hrf:(actR c F r2).2=rf:=by
        rcases h with h | h | h
        · rw[hno h.2.1,h.2.2]
        · have:=h.2.1; simp at this
        · exact h.2.2.symm
       refine⟨_,_,bad rf hf ?_ _ hk,cv_id⟩
       rw[←hres]
       simp only[hrf,acts_bad hf,t2_still _ hf]
   · simp -implicitDefEqProofs
     rw[wantR1]at he2
     refine⟨_,_,bad _ he2 ?_ _ (hk.w2 hJ),cv_id⟩
     rw[←hres]
     simp only[act_still _ he2,acts_bad he2,t2_still _ he2]
 · rw[if_neg he1]at hq
   obtain⟨rfl,hk⟩:=hq
   simp -implicitDefEqProofs
   have hk':Keep H [j,k] H':=(show Keep (w2 H j k (pdO c r) _++[]) [j] H' by simpa using hk).w2 hJ
   refine⟨_,_,bad _ he1 ?_ _ hk',cv_id⟩
   rw[←hres]
   simp only[t2_still _ he1,act_still _ he1,acts_bad he1]
end
end Go.Proofs.YtmkdpmfhlfhjkaaGreatDoor
namespace Go.Proofs.YtmkdpmfhlfhjkaaGreatDoor
open Go.Ab
section
variable {H:List AO} {c:Cx} {r:Rd} {j k:Nat} {lb:List UInt8} {p:Int} {F:Rd->Ex×Rd}
def endT (c:Cx) (F:Rd->Ex×Rd) (lb:List UInt8) (p:Int) (r:Rd):StageP×Rd :=
 let e:=exprsR c F (t2 c [112,97,121] (t2 c [123] r))
 (⟨3,lb,[],0,0,[],false,[],[],[],e.1,p⟩,t2 c [125] (t2 c [59] e.2))
def enC (lb:List UInt8) (n m:Nat) (p:Int):List SV:=[i64 3,st (B lb),st (B []),i64 0,i64 0,nl,bl false,nl,nl,nl,.own (n+1) 0 (m+1) 5 m,i64 p]
def enL (l:List Ex) (m:Nat) (G:List AO):List AO:=⟨[st (B [123]),st (B [112,97,121])],9,0,true⟩::⟨Ex.cL l,25,m,true⟩::G
def Nb (c:Cx) (F:Rd->Ex×Rd):Prop:=∀ r:Rd,r.e=0->begR c r=false->(F r).2=failR c 11 r
theorem exprsL_bad {n:Nat} {l:List Ex} (h:r.e≠0):exprsL c F n l r=(l,r):=by
 cases n with
 | zero=>rfl
 | succ n=>rw[exprsL,if_neg (by rw[peek_bad h]; decide)]
set_option maxHeartbeats 2000000 in
theorem loop149 (hn:NumT c) (h20:c.ts.length≤20000) (hJ:J2 H j k) {d:Nat} (hF:PdC c 32 [] F d) (hkF:Kp c d F) (hst:Still F) (hnb:Nb c F) {N:Nat} {K:XE->Env->List AO->Prop} {res:List Ex×Rd}
 (hexit:res.2.e=0->Gd c d res.2->∀ env G m,res.1.length=m+1->env.get 0=rp j->env.get 1=rp k->K (.exit 0) env (w2 H j k (pdO c res.2) ⟨enC lb H.length m p,78,0,true⟩++enL res.1 m G))
 (hpan:res.2.e≠0->∀ env H',Keep H [j,k] H'->K (.panic (fltI res.2.e res.2.p)) env H') :
 ∀ (n:Nat) (l:List Ex) (m:Nat) (r:Rd) (G:List AO) (env:Env),c.ts.length≤r.a+n->l.length=m+1->l.length≤r.a->exprsL c F n l r=res->Gd c d r->r.e=0->env.get 0=rp j->env.get 1=rp k →
  LI Tryz.prog N drawB l149_0 env (w2 H j k (pdO c r) ⟨enC lb H.length m p,78,0,true⟩++enL l m G) K:=by
 have hct:c.ts.length<4611686018427387904:=by omega
 have out:∀ (l:List Ex) (m:Nat) (r:Rd) (G:List AO) (env:Env),peekR c [44] r=false->(l,r)=res->l.length=m+1->Gd c d r->r.e=0->env.get 0=rp j->env.get 1=rp k →
  LI Tryz.prog N drawB l149_0 env (w2 H j k (pdO c r) ⟨enC lb H.length m p,78,0,true⟩++enL l m G) K:=by
  intro l m r G env hp hr hlm hg he h0 h1
  refine li_go hm l149_0.eq_1 ?_
  have h90:=fun p L=>ok90 hn (w2_j (o:=pdO c r) (p:=p) hJ L) (by have:=hg.a; omega) he (s:=[44]) rfl
  simp -implicitDefEqProofs[h0,h1,rp]
  refine call_go (by simpa[rp]using h90 _ _) ?_
  simp only[accR,hp]
  simp -implicitDefEqProofs[h0,h1,hp]
  rw[w2_setj hJ]
  subst hr
  exact hexit he hg _ G m hlm (by simp[h0]) (by simp[h1])
 intro n
 induction n with
 | zero =>
  intro l m r G env hna hlm hlr hr hg he h0 h1
  exact out l m r G env (by rw[←Bool.not_eq_true]; intro h; have:=peek_lt h; omega) hr hlm hg he h0 h1
 | succ n ih =>
  intro l m r G env hna hlm hlr hr hg he h0 h1
  rw[exprsL]at hr
  by_cases hp:peekR c [44] r=true
  · rw[if_pos hp]at hr
    simp only[t2_acc hp]at hr
    have ha:=hg.a
    have hg1:=hg.next (peek_lt hp)
    have he1:(nextR r).e=0:=he
    have e2:=fun o cs L f=>w2_sok (o:=o) (p:=⟨cs,78,0,true⟩) hJ L f
    have e3:=fun o cs L=>w2_ock (o:=o) hJ cs 78 L
    have h90:=fun p L=>ok90 hn (w2_j (o:=pdO c r) (p:=p) hJ L) (by omega) he (s:=[44]) rfl
    have h79:=fun p L e=>ok79 (w2_j (o:=pdO c (nextR r)) (p:=p) hJ L) e
    have h183:=fun p L=>ok183 hn (w2_j (o:=pdO c (nextR r)) (p:=p) hJ L) he1
    have hc:=fun p L=>hF (w2_j (o:=pdO c (nextR r)) (p:=p) hJ L) hg1 he1
    refine li_go hm l149_0.eq_1 ?_
    simp -implicitDefEqProofs[h0,h1,rp]
    refine call_go (by simpa[rp]using h90 _ _) ?_
    rw[w2_setj hJ]
    simp only[accR,hp,if_true]
    simp -implicitDefEqProofs[h0,h1,hp,rp,e2,e3,enC,enL]
    by_cases h32:l.length=32
    · have h32':(m:Int)+1=32:=by omega
      simp -implicitDefEqProofs[h0,h1,rp,e2,e3,h32']
      refine call_go (by simpa[rp]using h183 _ _) ?_
      by_cases hb:begR c (nextR r)=true
      · rw[if_pos ⟨h32,hb⟩]at hr
        have hf:=fail_keep (e:=12) (by decide) hg1
        have f12:(failR c 12 (nextR r)).e=12∧(failR c 12 (nextR r)).p=hereR c (nextR r):=by simp[failR,he1]
        rw[hst _ hf.2.2,exprsL_bad hf.2.2]at hr
        simp -implicitDefEqProofs[h0,h1,rp,hb]
        refine call_go (by simpa[rp]using h79 _ _ 12) ?_
        simp -implicitDefEqProofs
        have:=hpan (by rw[←hr]; exact hf.2.2)
        rw[←hr]at this
        simp only[f12.1,f12.2]at this
        exact this _ _ (Keep.w2 hJ (Keep.refl _ _))
      · rw[if_neg (fun h=>hb h.2)]at hr
        rw[Bool.not_eq_true]at hb
        have hf:=fail_keep (e:=11) (by decide) hg1
        have f11:(failR c 11 (nextR r)).e=11∧(failR c 11 (nextR r)).p=hereR c (nextR r):=by simp[failR,he1]
        rw[hnb _ he1 hb,exprsL_bad hf.2.2]at hr
        simp -implicitDefEqProofs[h0,h1,rp,hb]
        refine call_go (by simpa[rp]using h79 _ _ 11) ?_
        simp -implicitDefEqProofs
        have:=hpan (by rw[←hr]; exact hf.2.2)
        rw[←hr]at this
        simp only[f11.1,f11.2]at this
        exact this _ _ (Keep.w2 hJ (Keep.refl _ _))
    · have h32':¬ (m:Int)+1=32:=by omega
      rw[if_neg (fun h=>h32 h.1)]at hr
      have hk2:=hkF _ hg1
      simp -implicitDefEqProofs[h0,h1,rp,e2,e3,h32']
      refine call_goP (by simpa[rp,enC,enL]using hc _ _) ?_
      intro o H' hq
      unfold PdP PdV at hq
      generalize F (nextR r)=q at hq hr hk2
      by_cases he2:q.2.e=0
      · rw[if_pos he2]at hq
        obtain⟨rfl,rfl⟩:=hq
        rw[w2_setj hJ]
        have hcl5:(Ex.cL l).length=(m+1)*5:=by rw[cL_len,hlm]
        simp -implicitDefEqProofs[h0,h1,rp,e2,e3,Ex.v,hcl5]
        have nx:∀ env,env.get 0=rp j->env.get 1=rp k->LI Tryz.prog N drawB l149_0 env (w2 H j k (pdO c q.2) ⟨[i64 3,st (B lb),st (B []),i64 0,i64 0,nl,bl false,nl,nl,nl,.own (H.length+1) 0 (m+1+1) 5 (m+1),i64 p],78,0,true⟩++(⟨[st (B [123]),st (B [112,97,121])],9,0,true⟩::⟨Ex.cL l++(q.1.c++List.drop ((m+1)*5+5) (Ex.cL l++[i64 0,i64 0,st ⟨#[]⟩,.val (.slice none 0 0),i64 0])),25,m+1,true⟩::G)) K:=by
         intro env g0 g1
         have hdr:List.drop ((m+1)*5+5) (Ex.cL l++[i64 0,i64 0,st ⟨#[]⟩,.val (.slice none 0 0),i64 0])=[]:=List.drop_of_length_le (by simp[hcl5])
         rw[hdr,List.append_nil]
         have hna1:(nextR r).a=r.a+1:=rfl
         refine LI.cong ?_ (ih (l++[q.1]) (m+1) q.2 G env (by omega) (by simp[hlm]) (by simp; omega) hr hk2.1 he2 g0 g1)
         simp[enC,enL,cL_snoc]
        refine⟨rfl,by omega,by omega,?_⟩
        repeat' constructor
        all_goals first | omega | (refine nx _ ?_ ?_<;>simp[dreK,rp])
      · rw[if_neg he2]at hq
        obtain⟨rfl,hk⟩:=hq
        simp -implicitDefEqProofs
        rw[exprsL_bad he2]at hr
        subst hr
        exact hpan he2 _ _ (hk.w2 hJ)
  · rw[if_neg hp]at hr
    rw[Bool.not_eq_true]at hp
    exact out l m r G env hp hr hlm hg he h0 h1
end
end Go.Proofs.YtmkdpmfhlfhjkaaGreatDoor
namespace Go.Proofs.YtmkdpmfhlfhjkaaGreatDoor
open Go.Ab
section
variable {H:List AO} {c:Cx} {r:Rd} {j k:Nat} {lb:List UInt8} {p:Int} {F:Rd->Ex×Rd}
theorem pend_t4 (hn:NumT c) (h20:c.ts.length≤20000) (hcl:closed H) (hJ:J2 H j k) (he:r.e=0) (ha:r.a≤c.ts.length) {l:List Ex} {m:Nat} (hlm:l.length=m+1) {G:List AO} {env:Env} (h0:env.get 0=rp j) {res:StageP×Rd}
 (hres:(⟨3,lb,[],0,0,[],false,[],[],[],l,p⟩,t2 c [125] (t2 c [59] r))=res) :
 X Tryz.prog Tryz.f149.ntmps drawB (IC.tl 4 i149) env (w2 H j k (pdO c r) ⟨enC lb H.length m p,78,0,true⟩++enL l m G) (FinP H.length r149 (PdS c H j k res)):=by
 have hct:c.ts.length<4611686018427387904:=by omega
 subst hres
 have hw:=want_at (p:=⟨enC lb H.length m p,78,0,true⟩) (L:=enL l m (G++[⟨[st (B [59]),st (B [125])],9,0,true⟩])) (q:=G.length+2) (n:=2) (T:=9) (ver:=0) (l:=[[59],[125]]) hn hct hJ (by simp[wds,enL]) rfl (by simp) (by intro s hs; simp at hs; rcases hs with rfl | rfl<;>rfl) he ha
 simp -implicitDefEqProofs[IC.tl,i149,r149,h0,rp,enL]
 refine pd_call (by simpa[rp,enL]using hw) (fun he2 => ?_) (fun he2 H' hk => ?_)
 · rw[w2_setj hJ]
   simp -implicitDefEqProofs
   rw[wantR2]at he2 ⊢
   refine⟨_,_,PdS.ret (q:=(⟨3,lb,[],0,0,[],false,[],[],[],l,p⟩,t2 c [125] (t2 c [59] r))) he2 rfl,?_⟩
   refine st_cv (L:=enL l m (G++[⟨[st (B [59]),st (B [125])],9,0,true⟩])) rfl hcl hJ ?_
   have e1:=(Rw.own (n:=H.length) (q:=1) (m:=m+1) (sz:=5) (ver:=m) (T:=25) (L:=enL l m (G++[⟨[st (B [59]),st (B [125])],9,0,true⟩])) (cells:=Ex.cL l) rfl (by rw[cL_len,hlm]) (Ex.undL _ l)).fz [] 1
   simp only[List.append_nil]at e1
   have hl0:l≠[]:=by rintro rfl; simp at hlm
   simp only[enC,List.map_cons,List.map_nil,StageP.cN,e1]
   simp[exN,acN,inN,hl0,exS,hlm]
 · simp -implicitDefEqProofs
   exact⟨_,_,PdS.pan (q:=(⟨3,lb,[],0,0,[],false,[],[],[],l,p⟩,t2 c [125] (t2 c [59] r))) he2 (hk.w2 hJ),cv_id⟩
theorem ok149 (hn:NumT c) (h20:c.ts.length≤20000) (hJ:J2 H j k) {d:Nat} (hF:PdC c 32 [] F d) (hkF:Kp c d F) (hst:Still F) (hnb:Nb c F) (ho:H[j]? = some (pdO c r)) (hk0:H[k]? = some ⟨sC lb p,78,0,true⟩) (hg:Gd c d r) (he:r.e=0) :
 OkP Tryz.prog 149 [rp j,rp k] H (PdS c H j k (endT c F lb p r)):=by
 have hct:c.ts.length<4611686018427387904:=by omega
 have ha:=hg.a
 have e2n:=fun o cs f=>w2_sok0 (o:=o) (p:=⟨cs,78,0,true⟩) hJ f
 have e3n:=fun o cs=>w2_ock0 (o:=o) hJ cs 78
 have e2:=fun o cs L f=>w2_sok (o:=o) (p:=⟨cs,78,0,true⟩) hJ L f
 have e3:=fun o cs L=>w2_ock (o:=o) hJ cs 78 L
 refine okP_fn hm Tryz.func149 c149 (by simp[rp,SV.under,hJ.lj,hJ.lk]) fun hcl => ?_
 refine Xc (H':=w2 H j k (pdO c r) ⟨sC lb p,78,0,true⟩) (w2_same ho hk0) ?_
 have tail:∀ (l:List Ex) (m:Nat) (r:Rd) (G:List AO) (env:Env) (res:StageP×Rd),r.e=0->r.a≤c.ts.length->l.length=m+1->env.get 0=rp j->_->_:=fun l m r G env res he ha hlm h0 hr=>pend_t4 (lb:=lb) (p:=p) (G:=G) (env:=env) (res:=res) (l:=l) (m:=m) hn h20 hcl hJ he ha hlm h0 hr
 rw[show i149=.seq (IC.nth 0 i149) (.seq (IC.nth 1 i149) (.seq (IC.nth 2 i149) (.seq (IC.nth 3 i149) (IC.tl 4 i149))))from rfl]
 generalize IC.tl 4 i149=t4 at tail ⊢
 generalize hres:endT c F lb p r=res
 unfold endT exprsR at hres
 have bad:∀ rf:Rd,rf.e≠0->res.2=rf->∀ H',Keep H [j,k] H'->PdS c H j k res (.pan (fltI rf.e rf.p)) H':=by
  intro rf hf hs H' hk
  rw[←hs]at hf ⊢
  exact PdS.pan hf hk
 have hw:=want_at (p:=⟨[i64 3,st (B lb),st (B []),i64 0,i64 0,nl,bl false,nl,nl,nl,nl,i64 p],78,0,true⟩) (L:=[⟨[st (B [123]),st (B [112,97,121])],9,0,true⟩]) (q:=0) (n:=2) (T:=9) (ver:=0) (l:=[[123],[112,97,121]]) hn hct hJ (by simp[wds]) rfl (by simp) (by intro s hs; simp at hs; rcases hs with rfl | rfl<;>rfl) he ha
 have hg1:=(t2_keep (c:=c) (d:=d) [112,97,121] (t2_keep (c:=c) (d:=d) [123] hg).1).1
 simp -implicitDefEqProofs[IC.nth,i149,r149,rp,e2n,e3n,sC]
 refine pd_call (by simpa[rp]using hw) (fun he1 => ?_) (fun he1 H' hk => ?_)
 · rw[w2_setj hJ]
   simp only[wantR2]at he1 ⊢
   have hp1:=(t2_strict he1).2
   generalize t2 c [112,97,121] (t2 c [123] r)=r1 at hg1 he1 hres hp1 ⊢
   have hc:=fun p L=>hF (w2_j (o:=pdO c r1) (p:=p) hJ L) hg1 he1
   have hg2:=(hkF _ hg1).1
   have hka:=(hkF _ hg1).2
   simp -implicitDefEqProofs[rp,e2,e3]
   refine call_goP (by simpa[rp]using hc _ _) ?_
   intro o H' hq
   unfold PdP PdV at hq
   generalize F r1=q at hq hg2 hres hka
   by_cases he2:q.2.e=0
   · rw[if_pos he2]at hq
     obtain⟨rfl,rfl⟩:=hq
     rw[w2_setj hJ]
     have hpos:1≤q.2.a:=by omega
     simp -implicitDefEqProofs[rp,e2,e3,Ex.v]
     generalize hs:exprsL c F c.ts.length [q.1] q.2=s at hres
     refine LI.cong (H':=w2 H j k (pdO c q.2) ⟨enC lb H.length 0 p,78,0,true⟩++enL [q.1] 0 []) (by simp[enC,enL,Ex.cL]) ?_
     refine loop149 hn h20 hJ hF hkF hst hnb (res:=s) (fun hs0 hgs env G m hlm h0 h1 => ?_) (fun hs0 env H' hk => ?_) c.ts.length [q.1] 0 q.2 [] _ (by omega) rfl (by simpa using hpos) hs hg2 he2 ?_ ?_
     · simp -implicitDefEqProofs
       exact tail s.1 m s.2 G env res hs0 hgs.a hlm h0 hres
     · simp -implicitDefEqProofs
       exact⟨_,_,bad s.2 hs0 (by rw[←hres]; simp only[t2_still _ hs0]) _ hk,cv_id⟩
     all_goals simp[rp]
   · rw[if_neg he2]at hq
     obtain⟨rfl,hk⟩:=hq
     simp -implicitDefEqProofs
     refine⟨_,_,bad _ he2 ?_ _ (hk.w2 hJ),cv_id⟩
     rw[←hres,exprsL_bad he2]
     simp only[t2_still _ he2]
 · simp -implicitDefEqProofs
   rw[wantR2]at he1
   refine⟨_,_,bad _ he1 ?_ _ (hk.w2 hJ),cv_id⟩
   rw[←hres]
   generalize t2 c [112,97,121] (t2 c [123] r)=r1 at he1
   have hF1:=hst r1 he1
   rw[hF1,exprsL_bad he1]
   simp only[t2_still _ he1]
end
end Go.Proofs.YtmkdpmfhlfhjkaaGreatDoor
namespace Go.Proofs.YtmkdpmfhlfhjkaaGreatDoor
open Go.Ab
section
variable {H:List AO} {c:Cx} {r:Rd} {j:Nat} {F:Rd->Ex×Rd}
def stageT (c:Cx) (F:Rd->Ex×Rd) (r:Rd):StageP×Rd :=
 let l:=labelR c r
 if peekR c [100,101,97,108] l.2=true then dealT c F l.1 (hereR c l.2) (nextR l.2)
 else if peekR c [116,117,114,110] l.2=true then turnT c F l.1 (hereR c l.2) (nextR l.2)
 else if peekR c [101,110,100] l.2=true then endT c F l.1 (hereR c l.2) (nextR l.2)
 else(zStage,failR c 11 l.2)
theorem stage_qe (hst:Still F):Qe (stageT c F r) (stageR c F r):=by
 unfold stageT stageR
 simp only
 generalize labelR c r=l
 by_cases h1:peekR c [100,101,97,108] l.2=true
 · rw[if_pos h1,if_pos h1,dealT_eq,t2_acc h1]
   by_cases he:(dealT c F l.1 (hereR c l.2) (nextR l.2)).2.e=0
   · exact .inl ⟨he,rfl⟩
   · exact .inr ⟨he,rfl,rfl⟩
 · rw[if_neg h1,if_neg h1]
   by_cases h2:peekR c [116,117,114,110] l.2=true
   · rw[if_pos h2,if_pos h2,turnT_eq,t2_acc h2]
     by_cases he:(turnT c F l.1 (hereR c l.2) (nextR l.2)).2.e=0
     · exact .inl ⟨he,rfl⟩
     · exact .inr ⟨he,rfl,rfl⟩
   · rw[if_neg h2,if_neg h2]
     by_cases h3:peekR c [101,110,100] l.2=true
     · rw[if_pos h3]
       have e:(takeR c [101,110,100] l.2).2=nextR l.2:=by simp[takeR,h3]
       have e1:(takeR c [101,110,100] l.2).1=hereR c l.2:=rfl
       simp only[e,e1]
       by_cases he:(endT c F l.1 (hereR c l.2) (nextR l.2)).2.e=0
       · exact .inl ⟨he,rfl⟩
       · exact .inr ⟨he,rfl,rfl⟩
     · rw[if_neg h3]
       rw[Bool.not_eq_true]at h3
       have e:(takeR c [101,110,100] l.2).2=failR c 11 l.2:=by simp[takeR,h3]
       simp only[e]
       by_cases he:l.2.e=0
       · have hb:(failR c 11 l.2).e≠0:=by simp[failR,he]
         refine .inr ⟨hb,?_,?_⟩<;>simp only[t2_still _ hb,exprs_still hst _ hb]
       · rw[fail_bad he]
         refine .inr ⟨he,?_,?_⟩<;>simp only[t2_still _ he,exprs_still hst _ he]
theorem w2_s1 {o z S o' p':AO} {L:List AO} (hj:j<H.length):w2 (H.set j o++(z::S::L)) j (H.length+1) o' p'=H.set j o'++(z::p'::L):=by
 rw[w2,s1_set hj,List.set_append_right _ _ (by simp)]
 simp
theorem J2.s1 {o z S:AO} {L:List AO} (hj:j<H.length):J2 (H.set j o++(z::S::L)) j (H.length+1):=⟨by simp; omega,by simp,by omega⟩
theorem Keep.s1 {o:AO} {L H':List AO} (h:Keep (H.set j o++L) [j,H.length+1] H'):Keep H [j] H':=by
 refine⟨Nat.le_trans (by simp) h.len,fun i hi hn => ?_⟩
 simp only[List.mem_cons,List.not_mem_nil,or_false]at hn
 rw[h.at_ i (by simp; omega) (by simp[hn]; omega),List.getElem?_append_left (by simpa using hi),List.getElem?_set_ne (Ne.symm hn)]
theorem map_at {o z S:AO} {L:List AO} {ks:List Value} {vs:List SV} {T v:Nat}:SV.mapOf (H.set j o++(z::S::(L++[⟨.mk ks::vs,T,v,false⟩]))) (.mp (H.length+(L.length+2)) v)=some (ks,vs):=by
 have h:(H.set j o++(z::S::(L++[⟨.mk ks::vs,T,v,false⟩])))[H.length+(L.length+2)]? = some ⟨.mk ks::vs,T,v,false⟩:=by
  rw[List.getElem?_append_right (by simp)]
  simp
 simp only[SV.mapOf,h]
 rw[if_pos ⟨trivial,trivial⟩]
def knK:List Value:=[.string ⟨#[100,101,97,108]⟩,.string ⟨#[116,117,114,110]⟩,.string ⟨#[101,110,100]⟩]
def knV:List SV:=[.fn (.func 147) [] [],.fn (.func 148) [] [],.fn (.func 149) [] []]
def knM:AO:=⟨.mk knK::knV,184,0,false⟩
theorem kn_look (s:List UInt8):lkm (.string (B s)) knK knV=if s=[100,101,97,108]then some (.fn (.func 147) [] [])else if s=[116,117,114,110]then some (.fn (.func 148) [] [])else if s=[101,110,100]then some (.fn (.func 149) [] [])else none:=by
 have e1:(⟨#[100,101,97,108]⟩:ByteArray)=B [100,101,97,108]:=rfl
 have e2:(⟨#[116,117,114,110]⟩:ByteArray)=B [116,117,114,110]:=rfl
 have e3:(⟨#[101,110,100]⟩:ByteArray)=B [101,110,100]:=rfl
 simp only[knK,knV,e1,e2,e3,lkm,vkeq,B_list]
 by_cases h1:s=[100,101,97,108]
 · simp[h1]
 · by_cases h2:s=[116,117,114,110]
   · simp[h1,h2]
   · by_cases h3:s=[101,110,100]
     · simp[h1,h2,h3]
     · simp[h1,h2,h3]
theorem cN_len (x:StageP):(StageP.cN x).length=12:=rfl
theorem cN_take (x:StageP):List.take 12 (StageP.cN x)=StageP.cN x:=rfl
theorem cN_ok (x:StageP):cellsOk (StageP.cN x):=by
 intro s hs
 simp[StageP.cN]at hs
 rcases hs with rfl | rfl | rfl | rfl | rfl | rfl | rfl | rfl | rfl | rfl | rfl | rfl<;>simp
theorem cN_und (n:Nat) (x:StageP):SV.underL n (StageP.cN x)=true:=by simp[StageP.cN,SV.underL,SV.under]
theorem pstage_t3 (hn:NumT c) (h20:c.ts.length≤20000) (hj:j<H.length) (hcl:closed H) {d:Nat} (hF:PdC c 32 [] F d) (hkF:Kp c d F) (hst:Still F) (hnb:Nb c F) (hg:Gd c d r) (he:r.e=0) {lb:List UInt8} {L:List AO} {env:Env} {res:StageP×Rd}
 (hres:(if peekR c [100,101,97,108] r=true then dealT c F lb (hereR c r) (nextR r)else if peekR c [116,117,114,110] r=true then turnT c F lb (hereR c r) (nextR r)else if peekR c [101,110,100] r=true then endT c F lb (hereR c r) (nextR r)else(zStage,failR c 11 r))=res)
 (h0:env.get 0=rp j) (h2:env.get 2=rp H.length) (h3:env.get 3=rp (H.length+1)) :
 X Tryz.prog Tryz.f94.ntmps drawB (IC.tl 3 i94) env (H.set j (pdO c r)++(zS::lbO lb::L)) (FinP H.length r94 (PdV c H j stageV res)):=by
 have hct:c.ts.length<4611686018427387904:=by omega
 have h139:=fun L=>ok139 (s1_j hj (pdO c r) L)
 rw[show IC.tl 3 i94=.seq (IC.nth 3 i94) (IC.tl 4 i94)from rfl,show IC.tl 4 i94=.seq (IC.nth 4 i94) (IC.tl 5 i94)from rfl]
 generalize ht5:IC.tl 5 i94=t5
 simp -implicitDefEqProofs[IC.nth,i94,h0,h2,h3,rp]
 refine s_mup_go (x:=([],[])) map_at rfl rfl rfl ?_
 simp -implicitDefEqProofs[msetK,msetV,vkeq,SV.key]
 refine s_mup_go (x:=([.string ⟨#[100,101,97,108]⟩],[.fn (.func 147) [] []])) map_at rfl rfl rfl ?_
 simp -implicitDefEqProofs[msetK,msetV,vkeq,SV.key]
 refine s_mup_go (x:=([.string ⟨#[100,101,97,108]⟩,.string ⟨#[116,117,114,110]⟩],[.fn (.func 147) [] [],.fn (.func 148) [] []])) map_at rfl rfl rfl ?_
 simp -implicitDefEqProofs[msetK,msetV,vkeq,SV.key,h0,h2,h3,rp]
 refine call_go (by simpa[rp]using h139 _) ?_
 have hmp:∀ S,SV.mapOf (H.set j (pdO c r)++(zS::S::(L++[knM]))) (.mp (H.length+(L.length+2)) 0)=some (knK,knV):=fun S=>map_at
 simp only[knM,knK,knV]at hmp
 have hlk:=kn_look (tkR c r).tx
 simp only[knK,knV]at hlk
 have m1:(SV.mp (H.length+(L.length+2)) 0).ug=.mp (H.length+(L.length+2)) 0:=rfl
 have m2:(SV.mp (H.length+(L.length+2)) 0).vd=true:=rfl
 have q1:=peek_tk (c:=c) (r:=r) hn (s:=[100,101,97,108]) rfl he
 have q2:=peek_tk (c:=c) (r:=r) hn (s:=[116,117,114,110]) rfl he
 have q3:=peek_tk (c:=c) (r:=r) hn (s:=[101,110,100]) rfl he
 rw[q1,q2,q3]at hres
 simp only[decide_eq_true_eq]at hres
 have bad:∀ rf:Rd,rf.e≠0->res.2=rf->∀ H',Keep H [j] H'->PdV c H j stageV res (.pan (fltI rf.e rf.p)) H':=by
  intro rf hf hs H' hk
  rw[←hs]at hf ⊢
  exact PdV.pan hf hk
 simp -implicitDefEqProofs[Tok.v,Tok.c,key_st,isK_st,hmp,hlk,m1,m2,h0,h2,h3,rp]
 have h79:=fun L=>ok79 (s1_j hj (pdO c r) L) 11
 have h140:=fun L (h:r.a<4611686018427387904)=>ok140 (s1_j hj (pdO c r) L) h
 have fin:∀ (f:Nat) (env:Env) (q:StageP×Rd),q=res->r.a<c.ts.length->env.get 0=rp j->env.get 2=rp H.length->env.get 3=rp (H.length+1)->env.get 5=.fn (.func f) [] []->env.get 6=bl true →
  (∀ G:List AO,J2 G j (H.length+1)->G[j]? = some (pdO c (nextR r))->G[H.length+1]? = some ⟨sC lb (hereR c r),78,0,true⟩->OkP Tryz.prog f [rp j,rp (H.length+1)] G (PdS c G j (H.length+1) q)) →
  X Tryz.prog Tryz.f94.ntmps drawB t5 env (H.set j (pdO c r)++(zS::lbO lb::(L++[⟨.mk knK::knV,184,0,false⟩]))) (FinP H.length r94 (PdV c H j stageV res)):=by
  intro f env q hq hlt h0 h2 h3 h5 h6 hf
  subst hq
  rw[←ht5]
  have hfG:=hf (H.set j (pdO c (nextR r))++(zS::⟨sC lb (hereR c r),78,0,true⟩::(L++[⟨.mk knK::knV,184,0,false⟩]))) (J2.s1 hj) (s1_j hj _ _) (by simp)
  simp -implicitDefEqProofs[IC.tl,i94,r94,h0,h2,h3,h5,h6,rp]
  refine call_go (by simpa[rp]using ok91p (c:=c) hj r _) ?_
  simp -implicitDefEqProofs[h0,h2,h3,h5,h6,rp,lbO]
  refine call_go (by simpa[rp]using h140 _ (by omega)) ?_
  rw[s1_set hj]
  simp -implicitDefEqProofs[h0,h2,h3,h5,h6,rp]
  refine call_goP (by simpa[rp,sC]using hfG) ?_
  intro o H' hp
  unfold PdS at hp
  by_cases he2:q.2.e=0
  · rw[if_pos he2]at hp
    obtain⟨rfl,rfl⟩:=hp
    rw[w2_s1 hj]
    have c1:=cN_len q.1
    have c2:=cN_take q.1
    have c3:=eq_true (cN_ok q.1)
    simp -implicitDefEqProofs[h0,h2,h3,rp,stO,zS,c1,c2,c3]
    refine⟨_,_,PdV.got (x:=q.1) he2 rfl rfl rfl,?_⟩
    refine Cv.le (cv_fz (n0:=H.length) (r:=.agg (StageP.cN q.1)) 3 (closed_pd (c:=c) (a:=q.2.a) (v:=q.2.v) hcl) (by simp) ?_) (le_agg (cN_le _))
    exact fz_under (by simp only[SV.under]; exact cN_und _ _)
  · rw[if_neg he2]at hp
    obtain⟨rfl,hk⟩:=hp
    simp -implicitDefEqProofs
    exact⟨_,_,PdV.pan he2 hk.s1,cv_id⟩
 have lt_of:∀ s:List UInt8,peekR c s r=true->r.a<c.ts.length:=fun s h=>peek_lt h
 by_cases h1:(tkR c r).tx=[100,101,97,108]
 · rw[if_pos h1]at hres
   simp -implicitDefEqProofs[h1]
   refine⟨⟨rfl,rfl,rfl⟩,?_⟩
   refine fin 147 _ _ hres (lt_of _ (by rw[q1]; simpa using h1)) ?_ ?_ ?_ ?_ ?_ (fun G hJ hG1 hG2=>ok147 hn h20 hJ hF hkF hst hG1 hG2 (hg.next (lt_of _ (by rw[q1]; simpa using h1))) he)
   all_goals simp[h0,h2,h3,rp]
 · rw[if_neg h1]at hres
   by_cases h2':(tkR c r).tx=[116,117,114,110]
   · rw[if_pos h2']at hres
     simp -implicitDefEqProofs[h2']
     refine⟨⟨rfl,rfl,rfl⟩,?_⟩
     refine fin 148 _ _ hres (lt_of _ (by rw[q2]; simpa using h2')) ?_ ?_ ?_ ?_ ?_ (fun G hJ hG1 hG2=>ok148 hn h20 hJ hF hkF hst hG1 hG2 (hg.next (lt_of _ (by rw[q2]; simpa using h2'))) he)
     all_goals simp[h0,h2,h3,rp]
   · rw[if_neg h2']at hres
     by_cases h3':(tkR c r).tx=[101,110,100]
     · rw[if_pos h3']at hres
       simp -implicitDefEqProofs[h3']
       refine⟨⟨rfl,rfl,rfl⟩,?_⟩
       refine fin 149 _ _ hres (lt_of _ (by rw[q3]; simpa using h3')) ?_ ?_ ?_ ?_ ?_ (fun G hJ hG1 hG2=>ok149 hn h20 hJ hF hkF hst hnb hG1 hG2 (hg.next (lt_of _ (by rw[q3]; simpa using h3'))) he)
       all_goals simp[h0,h2,h3,rp]
     · rw[if_neg h3']at hres
       have hb:(failR c 11 r).e=11∧(failR c 11 r).p=hereR c r:=by simp[failR,he]
       rw[←ht5]
       simp -implicitDefEqProofs[h1,h2',h3',IC.tl,i94,h0,h2,h3,rp]
       refine⟨⟨rfl,rfl,rfl⟩,?_⟩
       have h79':=h79 (zS::lbO lb::(L++[knM]))
       simp only[knM,knK,knV,rp]at h79'
       refine call_go h79' ?_
       simp -implicitDefEqProofs
       have:=fun H' hk=>bad (failR c 11 r) (by rw[hb.1]; decide) (by rw[←hres]) H' hk
       rw[hb.1,hb.2]at this
       exact⟨_,_,this _ (Keep.of_set (o:=pdO c r) (Keep.refl _ _)),cv_id⟩
theorem ok94T (hn:NumT c) (h20:c.ts.length≤20000) {d:Nat} (hF:PdC c 32 [] F d) (hkF:Kp c d F) (hst:Still F) (hnb:Nb c F) (ho:H[j]? = some (pdO c r)) (hg:Gd c d r) (he:r.e=0):OkP Tryz.prog 94 [rp j] H (PdV c H j stageV (stageT c F r)):=by
 have hj:=getElem?_lt ho
 have hct:c.ts.length<4611686018427387904:=by omega
 have ha:=hg.a
 refine okP_fn hm Tryz.func94 c94 (by simp[rp,SV.under,hj]) fun hcl => ?_
 have tail:∀ (lb:List UInt8) (r1:Rd) (L:List AO) (env:Env),labelR c r=(lb,r1)->Gd c d r1->r1.e=0->env.get 0=rp j->env.get 2=rp H.length->env.get 3=rp (H.length+1) →
  X Tryz.prog Tryz.f94.ntmps drawB (IC.tl 3 i94) env (H.set j (pdO c r1)++(zS::lbO lb::L)) (FinP H.length r94 (PdV c H j stageV (stageT c F r))):=by
  intro lb r1 L env hl hg1 he1 h0 h2 h3
  exact pstage_t3 (lb:=lb) (L:=L) hn h20 hj hcl hF hkF hst hnb hg1 he1 (by unfold stageT; rw[hl]) h0 h2 h3
 have hbad:∀ rf:Rd,rf.e≠0->(labelR c r).2=rf->∀ H',Keep H [j] H'->PdV c H j stageV (stageT c F r) (.pan (fltI rf.e rf.p)) H':=by
  intro rf hf hs H' hk
  have:(stageT c F r).2=rf:=by
   unfold stageT
   simp only[hs]
   rw[if_neg (by rw[peek_bad hf]; decide),if_neg (by rw[peek_bad hf]; decide),if_neg (by rw[peek_bad hf]; decide)]
   exact fail_bad hf
  rw[←this]at hf ⊢
  exact PdV.pan hf hk
 have h92:=fun L=>ok92 (H:=H++L) (c:=c) (r:=r) (j:=j) (by rw[List.getElem?_append_left hj]; exact ho) he
 have h88:=fun L=>ok88p (c:=c) (r:=r) hj (by omega) he L false
 simp only[wordF_off]at h88
 rw[show i94=.seq (IC.nth 0 i94) (.seq (IC.nth 1 i94) (.seq (IC.nth 2 i94) (IC.tl 3 i94)))from rfl]
 generalize IC.tl 3 i94=t3 at tail ⊢
 refine Xc (H':=H.set j (pdO c r)++[]) (by rw[List.append_nil]; exact set_same ho) ?_
 have h92p:=fun L=>ok92 (s1_j hj (pdO c r) L) he
 simp -implicitDefEqProofs[IC.nth,i94,rp]
 refine call_go (by simpa[rp]using h92p _) ?_
 by_cases hp:freeR c r=true
 · have hl:labelR c r=((wordR c r).1,t2 c [58] (wordR c r).2):=by unfold labelR; rw[if_pos hp]
   have hg1:=(word_keep (c:=c) (d:=d) r hg).1
   rw[hl]at tail hbad
   simp -implicitDefEqProofs[hp,rp]
   generalize wordR c r=w at h88 hg1 tail hbad
   refine pd_call (by simpa[rp]using h88 _) (fun he1 => ?_) (fun he1 H' hk => ?_)
   · rw[s1_set hj]
     have hw:=want_p (H:=H) (j:=j) (r:=w.2) (L:=[zS,lbO w.1,⟨[st (B [58])],9,0,true⟩]) (q:=2) (n:=1) (T:=9) (ver:=0) (l:=[[58]]) hn hct hj (by simp[wds]) rfl (by simp) (by intro s hs; simp at hs; subst hs; rfl) he1 hg1.a
     have hg2:=(t2_keep (c:=c) (d:=d) [58] hg1).1
     simp -implicitDefEqProofs[rp]
     refine pd_call (by simpa[rp,zS,lbO]using hw) (fun he2 => ?_) (fun he2 H' hk => ?_)
     · rw[s1_set hj]
       simp only[wantR1]at he2 ⊢
       simp -implicitDefEqProofs[rp]
       refine Xc ?_ (tail w.1 (t2 c [58] w.2) [⟨[st (B [58])],9,0,true⟩] _ rfl hg2 he2 ?_ ?_ ?_)
       · simp[zS,lbO]
       all_goals simp[rp]
     · simp -implicitDefEqProofs
       rw[wantR1]at he2
       exact⟨_,_,hbad _ he2 rfl _ hk.of_set,cv_id⟩
   · simp -implicitDefEqProofs
     exact⟨_,_,hbad _ he1 (t2_still _ he1) _ hk.of_set,cv_id⟩
 · have hl:labelR c r=([],r):=by unfold labelR; rw[if_neg hp]
   simp -implicitDefEqProofs[hp]
   refine Xc ?_ (tail [] r [] _ hl hg he ?_ ?_ ?_)
   · simp[zS,lbO]
   all_goals simp[rp]
theorem ok94 (hn:NumT c) (h20:c.ts.length≤20000) {d:Nat} (hF:PdC c 32 [] F d) (hkF:Kp c d F) (hst:Still F) (hnb:Nb c F) (ho:H[j]? = some (pdO c r)) (hg:Gd c d r) (he:r.e=0):OkP Tryz.prog 94 [rp j] H (PdV c H j stageV (stageR c F r)) :=
 (ok94T hn h20 hF hkF hst hnb ho hg he).mono fun o H' h=>h.eqv (stage_qe hst)
end
end Go.Proofs.YtmkdpmfhlfhjkaaGreatDoor
namespace Go.Proofs.YtmkdpmfhlfhjkaaGreatDoor
open Go.Ab
theorem numR_rng:∀ (tx:List UInt8) (n:Int),0≤n->n≤1000000000->(∀ c∈tx,48≤c.toNat)->(numR tx n).1=0->0≤(numR tx n).2∧(numR tx n).2≤1000000000
 | [],n,h1,h2,_,_=>⟨h1,h2⟩
 | c::r,n,h1,h2,hd,he=>by
  unfold numR at he ⊢
  split at he
  · cases he
  · rename_i hn
    rw[if_neg hn]
    have:=hd c (by simp)
    exact numR_rng r _ (by omega) (by omega) (fun x hx=>hd x (by simp[hx])) he
theorem mkStp_num {l:List UInt8} {p q q':Nat} {k:Int} {t:Tok} (h:mkStp l p k q=.tok t q'):t.n=(whE l k (cut l p q) p).2∧(whE l k (cut l p q) p).1=0:=by
 unfold mkStp at h
 split at h
 · cases h
 · rename_i hn
   cases h
   exact⟨rfl,Classical.byContradiction hn⟩
theorem whE_one {l tx:List UInt8} {k:Int} {p:Nat} (hk:k≠2):(whE l k tx p).2=0:=by
 unfold whE
 split
 · rfl
 · split
   · rfl
   · rfl
theorem step_num {l:List UInt8} {p q:Nat} {t:Tok} (h:stepT l p=.tok t q):0≤t.n∧t.n≤1000000000:=by
 unfold stepT at h
 split at h
 · cases h
 · split at h
   · have:=(mkStp_num h).1; rw[whE_one (by decide)]at this; omega
   · split at h
     · obtain⟨h1,h2⟩:=mkStp_num h
       have hd:=run_digits (l:=l) (p:=p)
       generalize cut l p (runE l [3] p)=tx at h1 h2 hd
       rw[h1]
       unfold whE at h2 ⊢
       split at h2
       · cases h2
       · split at h2
         · cases h2
         · split at h2
           · rename_i h5; exact absurd rfl h5
           · split at h2
             · cases h2
             · rename_i a1 a2 a3 a4
               rw[if_neg a1,if_neg a2,if_neg a3,if_neg a4]
               exact numR_rng tx 0 (by decide) (by decide) (fun c hc=>(hd c hc).1) h2
     · split at h
       · have:=(mkStp_num h).1; rw[whE_one (by decide)]at this; omega
       · split at h
         · cases h
         · have:=(mkStp_num h).1; rw[whE_one (by decide)]at this; omega
def TokN (c:Cx):Prop:=∀ t∈c.ts,0≤t.n∧t.n≤1000000000
theorem tokN (l:List UInt8):TokN ⟨(scanG l).1,l.length⟩:=by
 intro t ht
 simp only at ht
 unfold scanG at ht
 split at ht
 · simp at ht
 · split at ht
   · obtain⟨p,q,hp,hs⟩:=toks_mem _ _ ht
     exact step_num hs
   · simp at ht
theorem nm_rng {c:Cx} (h:TokN c) (r:Rd):0≤(nmR c r).1∧(nmR c r).1≤1000000000:=by
 unfold nmR
 split
 · rename_i hp
   obtain⟨_,hlt,_⟩:=tokB_lt hp
   simp only[List.getD,List.getElem?_eq_getElem hlt,Option.getD_some]
   exact h _ (List.getElem_mem hlt)
 · simp
end Go.Proofs.YtmkdpmfhlfhjkaaGreatDoor
namespace Go.Proofs.YtmkdpmfhlfhjkaaGreatDoor
open Go.Ab
section
variable {H:List AO} {c:Cx} {r:Rd} {j:Nat}
theorem varR_eq (hN:TokN c) (l:List VarP) (hp:peekR c [118,97,114] r=true) {w:List UInt8×Rd} (hw:wordF c (decide (l.length=40)) (nextR r)=w) {f:Bool} (hf:peekR c [45] (t2 c [61] w.2)=f) {n:Int×Rd} (hn:nmR c (if f=true then nextR (t2 c [61] w.2)else t2 c [61] w.2)=n) :
 varR c l r=(⟨w.1,if f=true then IntKind.i64.wrap (-n.1)else n.1,hereR c (nextR r)⟩,t2 c [59] n.2):=by
 have hh:hereR c (if l.length=40∧freeR c (nextR r)=true then failR c 12 (nextR r)else nextR r)=hereR c (nextR r):=by
  split
  · unfold failR; split<;>rfl
  · rfl
 have hw':wordR c (if l.length=40∧freeR c (nextR r)=true then failR c 12 (nextR r)else nextR r)=w:=by
  rw[←hw]; unfold wordF; simp only[decide_eq_true_eq]
 have hr:=nm_rng hN (if f=true then nextR (t2 c [61] w.2)else t2 c [61] w.2)
 rw[hn]at hr
 unfold varR
 simp only[t2_acc hp,hh,hw']
 cases f with
 | true =>
  have hfl:flagR c [45] (t2 c [61] w.2)=(true,nextR (t2 c [61] w.2)):=by unfold flagR; rw[if_pos hf,t2_acc hf]
  rw[if_pos rfl]at hn
  simp only[hfl,hn,if_true,Int.neg_one_mul]
 | false =>
  have hfl:flagR c [45] (t2 c [61] w.2)=(false,t2 c [61] w.2):=by unfold flagR; rw[if_neg (by rw[hf]; decide)]
  rw[if_neg (by decide)]at hn
  have e:IntKind.i64.wrap n.1=n.1:=wrap_id (by omega) (by omega)
  simp[hfl,hn,e]
theorem vars_bad {n:Nat} {l:List VarP} (h:r.e≠0):varsL c n l r=(l,r):=by
 cases n with
 | zero=>rfl
 | succ n=>rw[varsL,if_neg (by rw[peek_bad h]; decide)]
def pOut (n:Nat) (nm:List UInt8) (pl:Int) (v s:Nat):AO:=⟨[st (B nm),i64 pl,.own (n+2) 0 v 3 v,.own (n+3) 0 s 12 s],36,0,true⟩
def rL (n:Nat) (nm:List UInt8) (pl:Int) (vs:List VarP) (ss:List StageP) (G:List AO):List AO:=zR::pOut n nm pl vs.length ss.length::varsO vs::stgsO ss::G
set_option maxHeartbeats 2000000 in
theorem loop39_0 (hn:NumT c) (hN:TokN c) (h20:c.ts.length≤20000) (hj:j<H.length) {d:Nat} {nm:List UInt8} {pl:Int} {N:Nat} {K:XE->Env->List AO->Prop} {res:List VarP×Rd}
 (hexit:res.2.e=0->Gd c d res.2->∀ env G,env.get 0=rp j->env.get 2=rp H.length->env.get 3=rp (H.length+1)->K (.exit 0) env (H.set j (pdO c res.2)++rL H.length nm pl res.1 [] G))
 (hpan:res.2.e≠0->∀ env H',Keep H [j] H'->K (.panic (fltI res.2.e res.2.p)) env H') :
 ∀ (n:Nat) (l:List VarP) (r:Rd) (G:List AO) (env:Env),c.ts.length≤r.a+n->l.length≤r.a->varsL c n l r=res->Gd c d r->r.e=0->env.get 0=rp j->env.get 2=rp H.length->env.get 3=rp (H.length+1) →
  LI Tryz.prog N drawB l39_0 env (H.set j (pdO c r)++rL H.length nm pl l [] G) K:=by
 have hct:c.ts.length<4611686018427387904:=by omega
 have out:∀ (l:List VarP) (r:Rd) (G:List AO) (env:Env),peekR c [118,97,114] r=false->(l,r)=res->Gd c d r->r.e=0->env.get 0=rp j->env.get 2=rp H.length->env.get 3=rp (H.length+1) →
  LI Tryz.prog N drawB l39_0 env (H.set j (pdO c r)++rL H.length nm pl l [] G) K:=by
  intro l r G env hp hr hg he h0 h2 h3
  refine li_go hm l39_0.eq_1 ?_
  have h90:=fun L=>ok90p (c:=c) (r:=r) hn hj (by have:=hg.a; omega) he L (s:=[118,97,114]) rfl
  simp -implicitDefEqProofs[h0,h2,h3,rp]
  refine call_go (by simpa[rp]using h90 _) ?_
  simp only[accR,hp]
  simp -implicitDefEqProofs[h0,h2,h3,hp]
  subst hr
  exact hexit he hg _ G (by simp[h0]) (by simp[h2]) (by simp[h3])
 intro n
 induction n with
 | zero =>
  intro l r G env hna hla hr hg he h0 h2 h3
  exact out l r G env (by rw[←Bool.not_eq_true]; intro h; have:=peek_lt h; omega) hr hg he h0 h2 h3
 | succ n ih =>
  intro l r G env hna hla hr hg he h0 h2 h3
  rw[varsL]at hr
  by_cases hp:peekR c [118,97,114] r=true
  · rw[if_pos hp]at hr
    have ha:=hg.a
    have hg1:=hg.next (peek_lt hp)
    have he1:(nextR r).e=0:=he
    obtain⟨k1,k2⟩:=varR_keep (c:=c) (d:=d) l r hg
    have k3:=varR_on (c:=c) (d:=d) l hg
    have hveq:=fun w (hw:wordF c (decide (l.length=40)) (nextR r)=w) f hf n hn=>varR_eq (c:=c) (r:=r) hN l hp (w:=w) hw (f:=f) hf (n:=n) hn
    have hd:(decide ((l.length:Int)=40))=decide (l.length=40):=by rw[decide_eq_decide]; omega
    have h90:=fun L=>ok90p (c:=c) (r:=r) hn hj (by omega) he L (s:=[118,97,114]) rfl
    have h88:=fun L=>ok88p (c:=c) (r:=nextR r) hj (by have:=hg1.a; omega) he1 L (decide (l.length=40))
    have hgw:=(wordF_keep (decide (l.length=40)) hg1).1
    refine li_go hm l39_0.eq_1 ?_
    simp -implicitDefEqProofs[h0,h2,h3,rp]
    refine call_go (by simpa[rp]using h90 _) ?_
    simp only[accR,hp,if_true]
    simp -implicitDefEqProofs[h0,h2,h3,hp,rp]
    refine call_go (by simpa[rp]using ok91p (c:=c) hj (nextR r) _) ?_
    simp -implicitDefEqProofs[h0,h2,h3,rp,rL,pOut,hd]
    generalize wordF c (decide (l.length=40)) (nextR r)=w at h88 hgw hveq
    have hveq:=hveq w rfl
    have bad:∀ rf:Rd,rf.e≠0->(varR c l r).2=rf->∀ env H',Keep H [j] H'->K (.panic (fltI rf.e rf.p)) env H':=by
     intro rf hf hs env H' hk
     rw[vars_bad (by rw[hs]; exact hf),hs]at hr
     subst hr
     exact hpan hf _ _ hk
    refine pd_call (by simpa[rp]using h88 _) (fun he2 => ?_) (fun he2 H' hk => ?_)
    · rw[s1_set hj]
      have hg2:=(t2_keep (c:=c) (d:=d) [61] hgw).1
      have hw:=want_p (H:=H) (j:=j) (r:=w.2) (L:=zR::pOut H.length nm pl l.length 0::varsO l::stgsO []::(G++[⟨[st (B w.1),i64 0,i64 (hereR c (nextR r))],75,0,true⟩,⟨[st (B [61])],9,0,true⟩])) (q:=G.length+1+4) (n:=1) (T:=9) (ver:=0) (l:=[[61]]) hn hct hj (by simp[wds]) rfl (by simp) (by intro s hs; simp at hs; subst hs; rfl) he2 hgw.a
      simp -implicitDefEqProofs[h0,h2,h3,rp]
      refine pd_call (by simpa[rp,pOut]using hw) (fun he3 => ?_) (fun he3 H' hk => ?_)
      · rw[s1_set hj]
        simp only[wantR1]at he3 ⊢
        generalize t2 c [61] w.2=r3 at hg2 he3 hveq ⊢
        have ha3:=hg2.a
        have h90:=fun L=>ok90p (c:=c) (r:=r3) hn hj (by omega) he3 L (s:=[45]) rfl
        have hga:Gd c d (accR c [45] r3):=by
         unfold accR; split
         · rename_i h; exact hg2.next (peek_lt h)
         · exact hg2
        have hea:(accR c [45] r3).e=0:=by unfold accR; split<;>exact he3
        have hveq:=fun n=>hveq (peekR c [45] r3) rfl n
        rw[←accR_eq]at hveq
        simp -implicitDefEqProofs[h0,h2,h3,rp]
        refine call_go (by simpa[rp]using h90 _) ?_
        generalize accR c [45] r3=r4 at hga hea hveq ⊢
        generalize peekR c [45] r3=f at hveq ⊢
        have h89:=fun L=>ok89p (c:=c) (r:=r4) hj (by have:=hga.a; omega) hea L false
        simp only[numF_off]at h89
        have hg4:=(num_keep (c:=c) (d:=d) r4 hga).1
        simp -implicitDefEqProofs[h0,h2,h3,rp]
        generalize nmR c r4=q at h89 hg4 hveq
        have hveq:=hveq q rfl
        refine pd_call (by simpa[rp]using h89 _) (fun he4 => ?_) (fun he4 H' hk => ?_)
        · rw[s1_set hj]
          have fin:∀ (N1:Int),N1=(if f=true then IntKind.i64.wrap (-q.1)else q.1)->OkP Tryz.prog 87 [rp j,.own (H.length+(G.length+6)) 0 1 1 0] (H.set j (pdO c q.2)++zR::pOut H.length nm pl l.length 0::varsO l::stgsO []::(G++[⟨[st (B w.1),i64 N1,i64 (hereR c (nextR r))],75,0,true⟩,⟨[st (B [61])],9,0,true⟩,⟨[st (B [59])],9,0,true⟩])) (PdV c (H.set j (pdO c q.2)++zR::pOut H.length nm pl l.length 0::varsO l::stgsO []::(G++[⟨[st (B w.1),i64 N1,i64 (hereR c (nextR r))],75,0,true⟩,⟨[st (B [61])],9,0,true⟩,⟨[st (B [59])],9,0,true⟩])) j (fun _:Unit=>.tup []) ((),wantR c [[59]] q.2)):=by
           intro N1 _
           exact want_p (H:=H) (j:=j) (r:=q.2) (q:=G.length+2+4) (n:=1) (T:=9) (ver:=0) (l:=[[59]]) hn hct hj (by simp[wds]) rfl (by simp) (by intro s hs; simp at hs; subst hs; rfl) he4 hg4.a
          have nxt:∀ (N1:Int) (env:Env) (G':List AO),N1=(if f=true then IntKind.i64.wrap (-q.1)else q.1)->(t2 c [59] q.2).e=0->env.get 0=rp j->env.get 2=rp H.length->env.get 3=rp (H.length+1) →
           LI Tryz.prog N drawB l39_0 env (H.set j (pdO c (t2 c [59] q.2))++zR::pOut H.length nm pl (l.length+1) 0::⟨rws VarP.c l++[st (B w.1),i64 N1,i64 (hereR c (nextR r))],75,l.length+1,true⟩::stgsO []::G') K:=by
           intro N1 env G' hN1 he5 h0 h2 h3
           have hs5:(varR c l r).2.e=0:=by rw[hveq]; exact he5
           have k3':=k3 hs5
           refine LI.cong ?_ (ih (l++[(varR c l r).1]) (varR c l r).2 G' env (by omega) (by simp; omega) hr k1 hs5 h0 h2 h3)
           rw[hveq,<- hN1]
           simp[rL,pOut,varsO,rws_app,rws,VarP.c]
          have bad5:(t2 c [59] q.2).e≠0->∀ env H',Keep H [j] H'->K (.panic (fltI (t2 c [59] q.2).e (t2 c [59] q.2).p)) env H':=fun h=>bad _ h (by rw[hveq])
          cases f with
          | true =>
           simp -implicitDefEqProofs[h0,h2,h3,rp]
           refine pd_call (by simpa[rp,pOut]using fin (IntKind.i64.wrap (-q.1)) (by simp)) (fun he5 => ?_) (fun he5 H' hk => ?_)
           · rw[s1_set hj]
             simp only[wantR1]at he5 ⊢
             simp -implicitDefEqProofs[h0,h2,h3,rp,varsO,rws_len VarP.c_len]
             refine⟨by omega,by omega,?_⟩
             refine LI.cong ?_ (nxt (IntKind.i64.wrap (-q.1)) _ (G++[⟨[st (B w.1),i64 (IntKind.i64.wrap (-q.1)),i64 (hereR c (nextR r))],75,0,true⟩,⟨[st (B [61])],9,0,true⟩,⟨[st (B [59])],9,0,true⟩,⟨[st (B w.1),i64 (IntKind.i64.wrap (-q.1)),i64 (hereR c (nextR r))],75,0,true⟩]) (by simp) he5 ?_ ?_ ?_)
             · simp[pOut]
             all_goals simp[h0,h2,h3,rp]
           · simp -implicitDefEqProofs
             rw[wantR1]at he5
             exact bad5 he5 _ _ hk.of_set
          | false =>
           simp -implicitDefEqProofs[h0,h2,h3,rp]
           refine pd_call (by simpa[rp,pOut]using fin q.1 (by simp)) (fun he5 => ?_) (fun he5 H' hk => ?_)
           · rw[s1_set hj]
             simp only[wantR1]at he5 ⊢
             simp -implicitDefEqProofs[h0,h2,h3,rp,varsO,rws_len VarP.c_len]
             refine⟨by omega,by omega,?_⟩
             refine LI.cong ?_ (nxt q.1 _ (G++[⟨[st (B w.1),i64 q.1,i64 (hereR c (nextR r))],75,0,true⟩,⟨[st (B [61])],9,0,true⟩,⟨[st (B [59])],9,0,true⟩,⟨[st (B w.1),i64 q.1,i64 (hereR c (nextR r))],75,0,true⟩]) (by simp) he5 ?_ ?_ ?_)
             · simp[pOut]
             all_goals simp[h0,h2,h3,rp]
           · simp -implicitDefEqProofs
             rw[wantR1]at he5
             exact bad5 he5 _ _ hk.of_set
        · simp -implicitDefEqProofs
          exact bad _ he4 (by rw[hveq]; exact t2_still _ he4) _ _ hk.of_set
      · simp -implicitDefEqProofs
        rw[wantR1]at he3
        have h2':=hveq false (peek_bad he3 _) (nmR c (t2 c [61] w.2)) (by rw[if_neg (by decide)])
        exact bad _ he3 (by rw[h2']; simp only[num_still _ he3,t2_still _ he3]) _ _ hk.of_set
    · simp -implicitDefEqProofs
      have ht:t2 c [61] w.2=w.2:=t2_still _ he2
      have h2':=hveq false (by rw[ht]; exact peek_bad he2 _) (nmR c w.2) (by rw[if_neg (by decide),ht])
      exact bad _ he2 (by rw[h2']; simp only[num_still _ he2,t2_still _ he2]) _ _ hk.of_set
  · rw[if_neg hp]at hr
    rw[Bool.not_eq_true]at hp
    exact out l r G env hp hr hg he h0 h2 h3
end
end Go.Proofs.YtmkdpmfhlfhjkaaGreatDoor
