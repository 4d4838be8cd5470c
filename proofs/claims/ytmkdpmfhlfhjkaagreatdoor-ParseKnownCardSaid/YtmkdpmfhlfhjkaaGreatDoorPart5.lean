/-
  Steps of the proof: contracts of functions and plain facts that the statement rests on.
-/
import Derived.Test.YtmkdpmfhlfhjkaaGreatDoorPart4
set_option linter.all false
namespace Go.Proofs.YtmkdpmfhlfhjkaaGreatDoor
open Go.Ab
def fW {α:Type} (f:α->List UInt8->List UInt8):List α->List UInt8->List UInt8
 | [],o=>o
 | x::r,o=>fW f r (f x o)
theorem fW_grow {α:Type} {f:α->List UInt8->List UInt8} (h:∀ x,Grow (f x)):∀ l,Grow (fW f l)
 | [],o=>Nat.le_refl _
 | x::r,o=>Nat.le_trans (h x o) (fW_grow h r (f x o))
def whenW (e:Ex) (o:List UInt8):List UInt8:=prE e (o++[32,119,104,101,110,32])
theorem whenW_grow (e:Ex):Grow (whenW e):=fun o=>by
 have:=prE_grow e (o++[32,119,104,101,110,32])
 unfold whenW; simp at this; omega
def setW (s:SetP) (o:List UInt8):List UInt8:=prE s.e (o++([32]++s.nm++[32,61,32]))++[59]
theorem setW_grow (s:SetP):Grow (setW s):=fun o=>by
 have:=prE_grow s.e (o++([32]++s.nm++[32,61,32]))
 unfold setW; simp at this ⊢; omega
def hidW (b:Bool) (o:List UInt8):List UInt8:=if b=true then o++[32,104,105,100,100,101,110]else o
def goW (g:List UInt8) (o:List UInt8):List UInt8:=if g=[]then o else o++([32,103,111,116,111,32]++g++[59])
def actW (a:ActP) (o:List UInt8):List UInt8 :=
 goW a.go (fW setW a.sets (hidW a.hid (fW whenW a.wh (o++([32,32,97,99,116,105,111,110,32]++a.nm)))++[32,123])++[32,125])++[10]
theorem hidW_grow (b:Bool):Grow (hidW b):=fun o=>by unfold hidW; split<;>simp
theorem goW_grow (g:List UInt8):Grow (goW g):=fun o=>by unfold goW; split<;>simp
theorem Ex.v_c (e:Ex):e.v=.agg e.c:=by cases e; rfl
theorem Ex.take5 (e:Ex):e.c.take 5=e.c:=by rw[←Ex.c_len e,List.take_length]
section
variable {H:List AO} {j q v0:Nat} {o0:List UInt8}
theorem loop108a (hp:PrA H j q o0 v0) {a:ActP} (hn:a.wh.length≤100) (hE:∀ e∈a.wh,PrK 73 [e.v] (prE e)) {res:List UInt8} (hL:res.length≤140737488355328) {N:Nat} {K:XE->Env->List AO->Prop}
 (hexit:∀ env v G,env.get 0=rp j->env.get 3=rp H.length->K (.exit 0) env (wr H j q res v++(⟨a.c,89,0,true⟩::G))) :
 ∀ (m i:Nat) (o:List UInt8) (v:Nat) (G:List AO) (env:Env),i+m=a.wh.length->fW whenW (a.wh.drop i) o=res->env.get 0=rp j->env.get 3=rp H.length->env.get 14=exS a.wh->env.get 15=i64 a.wh.length->env.get 16=i64 i →
  LI Tryz.prog N drawB l108_0 env (wr H j q o v++(⟨a.c,89,0,true⟩::G)) K:=by
 intro m
 induction m with
 | zero =>
  intro i o v G env hi hr h0 h3 h14 h15 h16
  refine li_go hm l108_0.eq_1 ?_
  have e:i=a.wh.length:=by omega
  subst e
  rw[List.drop_length,fW]at hr
  subst hr
  simp -implicitDefEqProofs[h0,h3,h14,h15,h16,exS]
  exact hexit _ _ _ (by simp[h0]) (by simp[h3])
 | succ m ih =>
  intro i o v G env hi hr h0 h3 h14 h15 h16
  refine li_go hm l108_0.eq_1 ?_
  have hlt:i<a.wh.length:=by omega
  have hlt':(i:Int)<a.wh.length:=by omega
  have hg:=exL_get hlt
  have hlen:=exL_len a.wh
  have he:=hE a.wh[i] (List.getElem_mem hlt)
  rw[List.drop_eq_getElem_cons hlt,fW]at hr
  have hgr:=fW_grow whenW_grow (a.wh.drop (i+1)) (whenW a.wh[i] o)
  rw[hr]at hgr
  have ih:=ih (i+1)
  generalize a.wh[i]=e at hg he hr hgr
  have hgw:=prE_grow e (o++[32,119,104,101,110,32])
  have hwd:whenW e o=prE e (o++[32,119,104,101,110,32]):=rfl
  rw[hwd]at hr hgr
  have he':=fun o v L h=>he.at hp o v L h
  have hc5:=Ex.c_len e
  have hcc:=Ex.take5 e
  have hok:=Ex.okc e
  simp only[Ex.v_c]at he'
  rw[List.length_append]at hgw
  simp at hgw
  simp -implicitDefEqProofs[h0,h3,h14,h15,h16,exS,hlt,hlt',hg,hlen,hc5,hcc]
  refine⟨by omega,call_go (add_at hp o v (l:=[[32,119,104,101,110,32]]) (T:=9) (by simp; rfl) rfl (by simp) (by simp; omega)) ?_⟩
  simp -implicitDefEqProofs[h0,h3,h14,h15,h16,exS,hlt,hlt',hc5,hcc]
  refine call_goP (he' (o++[32,119,104,101,110,32]) _ _ (by omega)) ?_
  rintro out H' ⟨rfl,v',rfl⟩
  simp -implicitDefEqProofs[h0,h3,h14,h15,h16,exS,hlt,hlt']
  refine ih _ v' _ _ (by omega) hr ?_ ?_ ?_ ?_ ?_
  all_goals simp[h0,h3,h14,h15,h16,exS,wrap_suc (show i<9223372036854775807 by omega)]
theorem loop108b (hp:PrA H j q o0 v0) {a:ActP} (hn:a.sets.length<2147483648) (hE:∀ x∈a.sets,PrK 73 [x.e.v] (prE x.e)) {res:List UInt8} (hL:res.length≤140737488355328) {N:Nat} {K:XE->Env->List AO->Prop}
 (hexit:∀ env v G,env.get 0=rp j->env.get 3=rp H.length->K (.exit 2) env (wr H j q res v++(⟨a.c,89,0,true⟩::G))) :
 ∀ (m i:Nat) (o:List UInt8) (v:Nat) (G:List AO) (env:Env),i+m=a.sets.length->fW setW (a.sets.drop i) o=res->env.get 0=rp j->env.get 3=rp H.length->env.get 36=.slc (rws SetP.c a.sets) a.sets.length->env.get 37=i64 a.sets.length->env.get 38=i64 i →
  LI Tryz.prog N drawB l108_1 env (wr H j q o v++(⟨a.c,89,0,true⟩::G)) K:=by
 have hlen:=rws_len SetP.len a.sets
 intro m
 induction m with
 | zero =>
  intro i o v G env hi hr h0 h3 h14 h15 h16
  refine li_go hm l108_1.eq_1 ?_
  have e:i=a.sets.length:=by omega
  subst e
  rw[List.drop_length,fW]at hr
  subst hr
  simp -implicitDefEqProofs[h0,h3,h14,h15,h16]
  exact hexit _ _ _ (by simp[h0]) (by simp[h3])
 | succ m ih =>
  intro i o v G env hi hr h0 h3 h14 h15 h16
  refine li_go hm l108_1.eq_1 ?_
  have hlt:i<a.sets.length:=by omega
  have hlt':(i:Int)<a.sets.length:=by omega
  have hg:=row_get (c:=SetP.c) SetP.len hlt
  have he:=hE a.sets[i] (List.getElem_mem hlt)
  rw[List.drop_eq_getElem_cons hlt,fW]at hr
  have hgr:=fW_grow setW_grow (a.sets.drop (i+1)) (setW a.sets[i] o)
  rw[hr]at hgr
  have ih:=ih (i+1)
  generalize a.sets[i]=x at hg he hr hgr
  have hgw:=prE_grow x.e (o++([32]++x.nm++[32,61,32]))
  have hwd:setW x o=prE x.e (o++([32]++x.nm++[32,61,32]))++[59]:=rfl
  rw[hwd]at hr hgr
  have he':=fun o v L h=>he.at hp o v L h
  have hc5:=Ex.c_len x.e
  have ht:∀ L,(x.e.c++L).take 5=x.e.c:=fun L=>List.take_left' hc5
  have hok:=Ex.okc x.e
  have hxc:x.c=st (B x.nm)::(x.e.c++[i64 x.p]):=rfl
  have hxl:=SetP.len x
  have hxo:=SetP.ok x
  simp only[Ex.v_c]at he'
  rw[List.length_append]at hgw hgr
  simp at hgw hgr
  rw[hxc]at hg hxl hxo
  generalize x.e.c=ec at *
  simp -implicitDefEqProofs[h0,h3,h14,h15,h16,hlt,hlt',hg,hlen,hc5,ht]
  refine⟨by omega,hok,call_go (add_at hp o v (l:=[[32],x.nm,[32,61,32]]) (T:=9) (by simp; rfl) rfl (by simp) (by simp; omega)) ?_⟩
  simp -implicitDefEqProofs[h0,h3,h14,h15,h16,hlt,hlt',hc5,ht]
  refine call_goP (he' (o++([32]++x.nm++[32,61,32])) _ _ (by simp; omega)) ?_
  rintro out H' ⟨rfl,v',rfl⟩
  simp -implicitDefEqProofs[h0,h3,h14,h15,h16,hlt,hlt']
  refine call_go (add_at hp _ v' (l:=[[59]]) (T:=9) (by simp; rfl) rfl (by simp) (by simp; omega)) ?_
  simp -implicitDefEqProofs[h0,h3,h14,h15,h16,hlt,hlt']
  refine ih _ (v'+1) _ _ (by omega) (by simpa using hr) ?_ ?_ ?_ ?_ ?_
  all_goals simp[h0,h3,h14,h15,h16,wrap_suc (show i<9223372036854775807 by omega)]
def PcW (H:List AO) (j q N:Nat) (b:AO) (p:IC) (F:List UInt8->List UInt8):Prop :=
 ∀ (K:XE->Env->List AO->Prop) (o:List UInt8) (v:Nat) (G:List AO) (env:Env),env.get 0=rp j->env.get 3=rp H.length->(F o).length≤140737488355328 →
  (∀ env v' G',env.get 0=rp j->env.get 3=rp H.length->K .normal env (wr H j q (F o) v'++(b::G')))->X Tryz.prog N drawB p env (wr H j q o v++(b::G)) K
theorem PcW.seq {N:Nat} {b:AO} {p r:IC} {F G:List UInt8->List UInt8} (h1:PcW H j q N b p F) (h2:PcW H j q N b r G) (hG:Grow G):PcW H j q N b (.seq p r) fun o=>G (F o):=by
 intro K o v L env h0 h3 hL hK
 simp only[X_seq]
 refine h1 _ o v L env h0 h3 (Nat.le_trans (hG _) hL) fun env v' G' h0 h3 => ?_
 exact h2 _ _ _ _ _ h0 h3 hL hK
theorem PcW.cast {N:Nat} {b:AO} {p:IC} {F G:List UInt8->List UInt8} (h:PcW H j q N b p F) (e:∀ o,F o=G o):PcW H j q N b p G:=by
 have:F=G:=funext e
 rwa [←this]
variable {N:Nat}
theorem pc108_1 (hp:PrA H j q o0 v0) (a:ActP):PcW H j q N ⟨a.c,89,0,true⟩ (IC.nth 1 i108) fun o=>o++([32,32,97,99,116,105,111,110,32]++a.nm):=by
 intro K o v L env h0 h3 hL hK
 simp at hL
 simp -implicitDefEqProofs[IC.nth,IC.tl,i108,ActP.c,rp,h0,h3]
 refine call_go (add_at hp o v (l:=[[32,32,97,99,116,105,111,110,32],a.nm]) (T:=9) (by simp; rfl) rfl (by simp) (by simp; omega)) ?_
 simp -implicitDefEqProofs
 exact hK _ _ _ (by simp[h0,rp]) (by simp[h3,rp])
theorem pc108_2 (hp:PrA H j q o0 v0) {a:ActP} (hn:a.wh.length≤100) (hE:∀ e∈a.wh,PrK 73 [e.v] (prE e)):PcW H j q N ⟨a.c,89,0,true⟩ (IC.nth 2 i108) (fW whenW a.wh):=by
 intro K o v L env h0 h3 hL hK
 simp -implicitDefEqProofs[IC.nth,i108,ActP.c,rp,h0,h3,exS]
 refine LI.cong (H':=wr H j q o v++(⟨a.c,89,0,true⟩::L)) rfl ?_
 refine loop108a hp hn hE hL (fun env v G h0 h3 => ?_) a.wh.length 0 o v L _ (by omega) (by simp) (by simp[h0,rp]) (by simp[h3,rp]) (by simp[exS]) (by simp) (by simp)
 simp -implicitDefEqProofs
 exact hK _ _ _ (by simp[h0,rp]) (by simp[h3,rp])
theorem pc108_3 (hp:PrA H j q o0 v0) (a:ActP):PcW H j q N ⟨a.c,89,0,true⟩ (IC.nth 3 i108) (hidW a.hid):=by
 intro K o v L env h0 h3 hL hK
 have hF:hidW a.hid o=if a.hid=true then o++[32,104,105,100,100,101,110]else o:=rfl
 by_cases h:a.hid=true
 · rw[if_pos h]at hF
   rw[hF]at hL hK
   simp at hL
   have hac:a.c=[st (B a.nm),exS a.wh,bl true,.slc (rws SetP.c a.sets) a.sets.length,st (B a.go),i64 a.p]:=by simp[ActP.c,h]
   rw[hac]at hK ⊢
   simp -implicitDefEqProofs[IC.nth,i108,rp,h0,h3]
   refine call_go (add_at hp o v (l:=[[32,104,105,100,100,101,110]]) (T:=9) (by simp; rfl) rfl (by simp) (by simp; omega)) ?_
   simp -implicitDefEqProofs
   exact hK _ _ _ (by simp[h0,rp]) (by simp[h3,rp])
 · rw[if_neg h]at hF
   rw[hF]at hL hK
   rw[Bool.not_eq_true]at h
   have hac:a.c=[st (B a.nm),exS a.wh,bl false,.slc (rws SetP.c a.sets) a.sets.length,st (B a.go),i64 a.p]:=by simp[ActP.c,h]
   rw[hac]at hK ⊢
   simp -implicitDefEqProofs[IC.nth,i108,rp,h0,h3]
   exact hK _ _ _ (by simp[h0,rp]) (by simp[h3,rp])
theorem pc108_4 (hp:PrA H j q o0 v0) (a:ActP):PcW H j q N ⟨a.c,89,0,true⟩ (IC.nth 4 i108) fun o=>o++[32,123]:=by
 intro K o v L env h0 h3 hL hK
 simp at hL
 simp -implicitDefEqProofs[IC.nth,IC.tl,i108,ActP.c,rp,h0,h3]
 refine call_go (add_at hp o v (l:=[[32,123]]) (T:=9) (by simp; rfl) rfl (by simp) (by simp; omega)) ?_
 simp -implicitDefEqProofs
 exact hK _ _ _ (by simp[h0,rp]) (by simp[h3,rp])
theorem pc108_5 (hp:PrA H j q o0 v0) {a:ActP} (hn:a.sets.length<2147483648) (hE:∀ x∈a.sets,PrK 73 [x.e.v] (prE x.e)):PcW H j q N ⟨a.c,89,0,true⟩ (IC.nth 5 i108) (fW setW a.sets):=by
 intro K o v L env h0 h3 hL hK
 simp -implicitDefEqProofs[IC.nth,i108,ActP.c,rp,h0,h3]
 refine LI.cong (H':=wr H j q o v++(⟨a.c,89,0,true⟩::L)) rfl ?_
 refine loop108b hp hn hE hL (fun env v G h0 h3 => ?_) a.sets.length 0 o v L _ (by omega) (by simp) (by simp[h0,rp]) (by simp[h3,rp]) (by simp) (by simp) (by simp)
 simp -implicitDefEqProofs
 exact hK _ _ _ (by simp[h0,rp]) (by simp[h3,rp])
theorem pc108_6 (hp:PrA H j q o0 v0) (a:ActP):PcW H j q N ⟨a.c,89,0,true⟩ (IC.nth 6 i108) fun o=>o++[32,125]:=by
 intro K o v L env h0 h3 hL hK
 simp at hL
 simp -implicitDefEqProofs[IC.nth,IC.tl,i108,ActP.c,rp,h0,h3]
 refine call_go (add_at hp o v (l:=[[32,125]]) (T:=9) (by simp; rfl) rfl (by simp) (by simp; omega)) ?_
 simp -implicitDefEqProofs
 exact hK _ _ _ (by simp[h0,rp]) (by simp[h3,rp])
theorem pc108_7 (hp:PrA H j q o0 v0) (a:ActP):PcW H j q N ⟨a.c,89,0,true⟩ (IC.nth 7 i108) (goW a.go):=by
 intro K o v L env h0 h3 hL hK
 have hF:goW a.go o=if a.go=[]then o else o++([32,103,111,116,111,32]++a.go++[59]):=rfl
 by_cases h:a.go=[]
 · rw[if_pos h]at hF
   rw[hF]at hL hK
   have hac:a.c=[st (B a.nm),exS a.wh,bl a.hid,.slc (rws SetP.c a.sets) a.sets.length,st (B []),i64 a.p]:=by simp[ActP.c,h]
   rw[hac]at hK ⊢
   simp -implicitDefEqProofs[IC.nth,i108,rp,h0,h3]
   exact hK _ _ _ (by simp[h0,rp]) (by simp[h3,rp])
 · rw[if_neg h]at hF
   rw[hF]at hL hK
   simp at hL
   have hB:¬ B a.go=B []:=fun h'=>h (B_inj.1 h')
   simp -implicitDefEqProofs[IC.nth,i108,ActP.c,rp,h0,h3,h,hB]
   refine call_go (add_at hp o v (l:=[[32,103,111,116,111,32],a.go,[59]]) (T:=9) (by simp; rfl) rfl (by simp) (by simp; omega)) ?_
   simp -implicitDefEqProofs
   exact hK _ _ _ (by simp[h0,rp]) (by simp[h3,rp])
theorem pc108_8 (hp:PrA H j q o0 v0) (a:ActP):PcW H j q N ⟨a.c,89,0,true⟩ (IC.tl 8 i108) fun o=>o++[10]:=by
 intro K o v L env h0 h3 hL hK
 simp at hL
 simp -implicitDefEqProofs[IC.nth,IC.tl,i108,ActP.c,rp,h0,h3]
 refine call_go (add_at hp o v (l:=[[10]]) (T:=9) (by simp; rfl) rfl (by simp) (by simp; omega)) ?_
 simp -implicitDefEqProofs
 exact hK _ _ _ (by simp[h0,rp]) (by simp[h3,rp])
theorem app_grow (l:List UInt8):Grow fun o=>o++l:=fun o=>by simp
structure PG (H:List AO) (j q N:Nat) (b:AO) (p:IC) (F:List UInt8->List UInt8):Prop where
 pc:PcW H j q N b p F
 gr:Grow F
theorem PG.seq {N:Nat} {b:AO} {p r:IC} {F G:List UInt8->List UInt8} (h1:PG H j q N b p F) (h2:PG H j q N b r G):PG H j q N b (.seq p r) fun o=>G (F o) :=
 ⟨h1.pc.seq h2.pc h2.gr,fun o=>Nat.le_trans (h1.gr o) (h2.gr _)⟩
theorem ok108 {a:ActP} (hn:a.wh.length≤100) (hs:a.sets.length<2147483648) (hE:∀ e∈a.wh,PrK 73 [e.v] (prE e)) (hS:∀ x∈a.sets,PrK 73 [x.e.v] (prE x.e)):PrK 108 [.agg a.c] (actW a):=by
 intro H j q o v hp hL
 have hj:=hp.lj
 refine okP_fn hm Tryz.func108 c108 (by simp[rp,SV.under,hj,ActP.und]) fun hcl => ?_
 have h:=(PG.mk (pc108_1 (N:=Tryz.f108.ntmps) hp a) (app_grow _)).seq ((PG.mk (pc108_2 hp hn hE) (fW_grow whenW_grow _)).seq ((PG.mk (pc108_3 hp a) (hidW_grow _)).seq ((PG.mk (pc108_4 hp a) (app_grow _)).seq
  ((PG.mk (pc108_5 hp hs hS) (fW_grow setW_grow _)).seq ((PG.mk (pc108_6 hp a) (app_grow _)).seq ((PG.mk (pc108_7 hp a) (goW_grow _)).seq ⟨pc108_8 hp a,app_grow _⟩))))))
 rw[show i108=.seq (IC.nth 0 i108) (.seq (IC.nth 1 i108) (.seq (IC.nth 2 i108) (.seq (IC.nth 3 i108) (.seq (IC.nth 4 i108) (.seq (IC.nth 5 i108) (.seq (IC.nth 6 i108) (.seq (IC.nth 7 i108) (IC.tl 8 i108))))))))from rfl]
 generalize (IC.seq (IC.nth 1 i108) (.seq (IC.nth 2 i108) (.seq (IC.nth 3 i108) (.seq (IC.nth 4 i108) (.seq (IC.nth 5 i108) (.seq (IC.nth 6 i108) (.seq (IC.nth 7 i108) (IC.tl 8 i108))))))))=t at h
 simp -implicitDefEqProofs[IC.nth,i108]
 refine h.pc _ o v [] _ (by simp[rp]) (by simp[rp]) hL fun env v' G h0 h3 => ?_
 simp -implicitDefEqProofs[r108]
 exact pr_end hp hcl (by simp) _ rfl
end
end Go.Proofs.YtmkdpmfhlfhjkaaGreatDoor
namespace Go.Proofs.YtmkdpmfhlfhjkaaGreatDoor
open Go.Ab
def wtW (e:Ex) (o:List UInt8):List UInt8:=prE e (o++[32,119,101,105,103,104,116,32])
theorem wtW_grow (e:Ex):Grow (wtW e):=fun o=>by
 have:=prE_grow e (o++[32,119,101,105,103,104,116,32])
 unfold wtW; simp at this; omega
def seeW:Bool->List Int->List UInt8->List UInt8
 | _,[],o=>o
 | b,n::r,o=>seeW false r (o++(if b=true then [32,115,101,101,110,32,98,121,32]else [44,32])++decI n)
theorem seeW_grow:∀ (l:List Int) (b:Bool),Grow (seeW b l)
 | [],b,o=>Nat.le_refl _
 | n::r,b,o=>by
  rw[seeW]
  refine Nat.le_trans ?_ (seeW_grow r false _)
  simp
def allW (b:Bool) (o:List UInt8):List UInt8:=if b=true then o++[32,115,101,101,110,32,98,121,32,97,108,108]else o
theorem allW_grow (b:Bool):Grow (allW b):=fun o=>by unfold allW; split<;>simp
def dealW (x:StageP) (o:List UInt8):List UInt8 :=
 seeW true x.seen (allW x.all (fW wtW x.wt (o++([100,101,97,108,32]++(x.nm++([32,105,110,32]++(decI x.lo++([32,46,46,32]++decI x.hi))))))))++[59,10]
section
variable {H:List AO} {j q v0 N:Nat} {o0:List UInt8}
theorem pc107_1 (hp:PrA H j q o0 v0) {x:StageP} (hlo:0≤x.lo∧x.lo≤1000000000) (hhi:0≤x.hi∧x.hi≤1000000000):PcW H j q N ⟨x.c,78,0,true⟩ (IC.nth 1 i107) fun o=>o++([100,101,97,108,32]++(x.nm++([32,105,110,32]++(decI x.lo++([32,46,46,32]++decI x.hi))))):=by
 intro K o v L env h0 h3 hL hK
 have n1:=fun H=>numK hlo.1 (by omega:x.lo≤9223372036854775807) H
 have n2:=fun H=>numK hhi.1 (by omega:x.hi≤9223372036854775807) H
 simp at hL
 simp -implicitDefEqProofs[IC.nth,IC.tl,i107,StageP.c,rp,h0,h3]
 refine callq_st (r:=st (B (decI x.lo))) (fun _=>n1 _) ?_
 simp -implicitDefEqProofs[rp,h0,h3]
 refine callq_st (r:=st (B (decI x.hi))) (fun _=>n2 _) ?_
 simp -implicitDefEqProofs[rp,h0,h3]
 refine call_go (add_at hp o v (l:=[[100,101,97,108,32],x.nm,[32,105,110,32],decI x.lo,[32,46,46,32],decI x.hi]) (T:=9) (by simp; rfl) rfl (by simp) (by simp; omega)) ?_
 simp -implicitDefEqProofs
 exact⟨⟨okC_go (n2 _),okC_go (n1 _)⟩,hK _ _ _ (by simp[h0,rp]) (by simp[h3,rp])⟩
theorem loop107a (hp:PrA H j q o0 v0) {x:StageP} (hn:x.wt.length≤100) (hE:∀ e∈x.wt,PrK 73 [e.v] (prE e)) {res:List UInt8} (hL:res.length≤140737488355328) {N:Nat} {K:XE->Env->List AO->Prop}
 (hexit:∀ env v G,env.get 0=rp j->env.get 3=rp H.length->K (.exit 0) env (wr H j q res v++(⟨x.c,78,0,true⟩::G))) :
 ∀ (m i:Nat) (o:List UInt8) (v:Nat) (G:List AO) (env:Env),i+m=x.wt.length->fW wtW (x.wt.drop i) o=res->env.get 0=rp j->env.get 3=rp H.length->env.get 20=exS x.wt->env.get 21=i64 x.wt.length->env.get 22=i64 i →
  LI Tryz.prog N drawB l107_0 env (wr H j q o v++(⟨x.c,78,0,true⟩::G)) K:=by
 intro m
 induction m with
 | zero =>
  intro i o v G env hi hr h0 h3 h14 h15 h16
  refine li_go hm l107_0.eq_1 ?_
  have e:i=x.wt.length:=by omega
  subst e
  rw[List.drop_length,fW]at hr
  subst hr
  simp -implicitDefEqProofs[h0,h3,h14,h15,h16,exS]
  exact hexit _ _ _ (by simp[h0]) (by simp[h3])
 | succ m ih =>
  intro i o v G env hi hr h0 h3 h14 h15 h16
  refine li_go hm l107_0.eq_1 ?_
  have hlt:i<x.wt.length:=by omega
  have hlt':(i:Int)<x.wt.length:=by omega
  have hg:=exL_get hlt
  have hlen:=exL_len x.wt
  have he:=hE x.wt[i] (List.getElem_mem hlt)
  rw[List.drop_eq_getElem_cons hlt,fW]at hr
  have hgr:=fW_grow wtW_grow (x.wt.drop (i+1)) (wtW x.wt[i] o)
  rw[hr]at hgr
  have ih:=ih (i+1)
  generalize x.wt[i]=e at hg he hr hgr
  have hgw:=prE_grow e (o++[32,119,101,105,103,104,116,32])
  have hwd:wtW e o=prE e (o++[32,119,101,105,103,104,116,32]):=rfl
  rw[hwd]at hr hgr
  have he':=fun o v L h=>he.at hp o v L h
  have hc5:=Ex.c_len e
  have hcc:=Ex.take5 e
  have hok:=Ex.okc e
  simp only[Ex.v_c]at he'
  rw[List.length_append]at hgw
  simp at hgw
  simp -implicitDefEqProofs[h0,h3,h14,h15,h16,exS,hlt,hlt',hg,hlen,hc5,hcc]
  refine⟨by omega,call_go (add_at hp o v (l:=[[32,119,101,105,103,104,116,32]]) (T:=9) (by simp; rfl) rfl (by simp) (by simp; omega)) ?_⟩
  simp -implicitDefEqProofs[h0,h3,h14,h15,h16,exS,hlt,hlt',hc5,hcc]
  refine call_goP (he' (o++[32,119,101,105,103,104,116,32]) _ _ (by omega)) ?_
  rintro out H' ⟨rfl,v',rfl⟩
  simp -implicitDefEqProofs[h0,h3,h14,h15,h16,exS,hlt,hlt']
  refine ih _ v' _ _ (by omega) hr ?_ ?_ ?_ ?_ ?_
  all_goals simp[h0,h3,h14,h15,h16,exS,wrap_suc (show i<9223372036854775807 by omega)]
theorem pc107_2 (hp:PrA H j q o0 v0) {x:StageP} (hn:x.wt.length≤100) (hE:∀ e∈x.wt,PrK 73 [e.v] (prE e)):PcW H j q N ⟨x.c,78,0,true⟩ (IC.nth 2 i107) (fW wtW x.wt):=by
 intro K o v L env h0 h3 hL hK
 simp -implicitDefEqProofs[IC.nth,i107,StageP.c,rp,h0,h3,exS]
 refine LI.cong (H':=wr H j q o v++(⟨x.c,78,0,true⟩::L)) rfl ?_
 refine loop107a hp hn hE hL (fun env v G h0 h3 => ?_) x.wt.length 0 o v L _ (by omega) (by simp) (by simp[h0,rp]) (by simp[h3,rp]) (by simp[exS]) (by simp) (by simp)
 simp -implicitDefEqProofs
 exact hK _ _ _ (by simp[h0,rp]) (by simp[h3,rp])
theorem pc107_3 (hp:PrA H j q o0 v0) (x:StageP):PcW H j q N ⟨x.c,78,0,true⟩ (IC.nth 3 i107) (allW x.all):=by
 intro K o v L env h0 h3 hL hK
 have hF:allW x.all o=if x.all=true then o++[32,115,101,101,110,32,98,121,32,97,108,108]else o:=rfl
 obtain⟨k,lb,nm,lo,hi,wt,all,seen,who,acts,pays,p⟩:=x
 cases all with
 | true =>
  simp only[if_true]at hF
  simp only[hF]at hL hK
  simp at hL
  simp -implicitDefEqProofs[IC.nth,i107,StageP.c,rp,h0,h3]
  refine call_go (add_at hp o v (l:=[[32,115,101,101,110,32,98,121,32,97,108,108]]) (T:=9) (by simp; rfl) rfl (by simp) (by simp; omega)) ?_
  simp -implicitDefEqProofs
  exact hK _ _ _ (by simp[h0,rp]) (by simp[h3,rp])
 | false =>
  have hF:allW false o=o:=rfl
  simp only[hF]at hL hK
  simp -implicitDefEqProofs[IC.nth,i107,StageP.c,rp,h0,h3]
  exact hK _ _ _ (by simp[h0,rp]) (by simp[h3,rp])
theorem loop107b (hp:PrA H j q o0 v0) {x:StageP} (hn:x.seen.length<2147483648) (hE:∀ n∈x.seen,0≤n∧n≤1000000000) {res:List UInt8} (hL:res.length≤140737488355328) {N:Nat} {K:XE->Env->List AO->Prop}
 (hexit:∀ env v G,env.get 0=rp j->K (.exit 2) env (wr H j q res v++(⟨x.c,78,0,true⟩::G))) :
 ∀ (m i:Nat) (o:List UInt8) (v:Nat) (G:List AO) (env:Env),i+m=x.seen.length->seeW (decide (i=0)) (x.seen.drop i) o=res->env.get 0=rp j->env.get 39=.slc (ints x.seen) x.seen.length->env.get 40=i64 x.seen.length->env.get 41=i64 i →
  LI Tryz.prog N drawB l107_1 env (wr H j q o v++(⟨x.c,78,0,true⟩::G)) K:=by
 intro m
 induction m with
 | zero =>
  intro i o v G env hi hr h0 h39 h40 h41
  refine li_go hm l107_1.eq_1 ?_
  have e:i=x.seen.length:=by omega
  subst e
  rw[List.drop_length,seeW]at hr
  subst hr
  simp -implicitDefEqProofs[h0,h39,h40,h41]
  exact hexit _ _ _ (by simp[h0])
 | succ m ih =>
  intro i o v G env hi hr h0 h39 h40 h41
  refine li_go hm l107_1.eq_1 ?_
  have hlt:i<x.seen.length:=by omega
  have hlt':(i:Int)<x.seen.length:=by omega
  have hg:=ints_G (l:=x.seen) (k:=i) (by simpa using hlt)
  have he:=hE x.seen[i] (List.getElem_mem hlt)
  rw[List.drop_eq_getElem_cons hlt,seeW]at hr
  have ih:=ih (i+1)
  generalize x.seen[i]=n at hg he hr
  have hg:∀ h,(ints x.seen)[i]'(h)=i64 n:=fun h=>hg
  have hgr:=seeW_grow (x.seen.drop (i+1)) false (o++(if decide (i=0)=true then [32,115,101,101,110,32,98,121,32]else [44,32])++decI n)
  rw[hr]at hgr
  have hN:=fun H=>numK he.1 (by omega:n≤9223372036854775807) H
  by_cases h00:i=0
  · subst h00
    have hh:(ints x.seen).head?.getD .any=i64 n:=by
     rw[List.head?_eq_getElem?,List.getElem?_eq_getElem (by simpa using hlt),hg]; rfl
    simp at hgr
    simp -implicitDefEqProofs[h0,h39,h40,h41,hlt,hlt',hg]
    refine⟨by omega,call_go (add_at hp o v (l:=[[32,115,101,101,110,32,98,121,32]]) (T:=9) (by simp; rfl) rfl (by simp) (by simp; omega)) ?_⟩
    simp -implicitDefEqProofs[h0,h39,h40,h41,hlt,hlt',hg]
    rw[hh]
    refine call_go (hN _) ?_
    simp -implicitDefEqProofs[h0,h39,h40,h41,hlt,hlt',hg]
    refine call_go (add_at hp _ (v+1) (l:=[decI n]) (T:=9) (by simp; rfl) rfl (by simp) (by simp; omega)) ?_
    simp -implicitDefEqProofs[h0,h39,h40,h41,hlt,hlt',hg]
    refine ih _ (v+2) _ _ (by omega) (by simpa using hr) ?_ ?_ ?_ ?_
    all_goals first | (simp[h0,h39,h40,h41]; done) | (simp; rfl)
  · simp[h00]at hgr
    have h00':¬ (i:Int)=0:=by omega
    simp -implicitDefEqProofs[h0,h39,h40,h41,hlt,hlt',hg,h00,h00']
    refine⟨by omega,call_go (add_at hp o v (l:=[[44,32]]) (T:=9) (by simp; rfl) rfl (by simp) (by simp; omega)) ?_⟩
    simp -implicitDefEqProofs[h0,h39,h40,h41,hlt,hlt',hg,h00,h00']
    refine call_go (hN _) ?_
    simp -implicitDefEqProofs[h0,h39,h40,h41,hlt,hlt',hg,h00,h00']
    refine call_go (add_at hp _ (v+1) (l:=[decI n]) (T:=9) (by simp; rfl) rfl (by simp) (by simp; omega)) ?_
    simp -implicitDefEqProofs[h0,h39,h40,h41,hlt,hlt',hg,h00,h00']
    refine ih _ (v+2) _ _ (by omega) (by simpa[h00]using hr) ?_ ?_ ?_ ?_
    all_goals simp[h0,h39,h40,h41,wrap_suc (show i<9223372036854775807 by omega)]
def PE (H:List AO) (j q N:Nat) (b:AO) (p:IC) (F:List UInt8->List UInt8):Prop :=
 ∀ (K:XE->Env->List AO->Prop) (o:List UInt8) (v:Nat) (G:List AO) (env:Env),env.get 0=rp j->env.get 3=rp H.length->(F o).length≤140737488355328 →
  (∀ env v' G',K .normal env (wr H j q (F o) v'++(b::G')))->X Tryz.prog N drawB p env (wr H j q o v++(b::G)) K
structure PEG (H:List AO) (j q N:Nat) (b:AO) (p:IC) (F:List UInt8->List UInt8):Prop where
 pc:PE H j q N b p F
 gr:Grow F
theorem PG.seqE {N:Nat} {b:AO} {p r:IC} {F G:List UInt8->List UInt8} (h1:PG H j q N b p F) (h2:PEG H j q N b r G):PEG H j q N b (.seq p r) fun o=>G (F o):=by
 refine⟨?_,fun o=>Nat.le_trans (h1.gr o) (h2.gr _)⟩
 intro K o v L env h0 h3 hL hK
 simp only[X_seq]
 refine h1.pc _ o v L env h0 h3 (Nat.le_trans (h2.gr _) hL) fun env v' G' h0 h3 => ?_
 exact h2.pc _ _ _ _ _ h0 h3 hL hK
theorem pc107_4 (hp:PrA H j q o0 v0) {x:StageP} (hn:x.seen.length<2147483648) (hE:∀ n∈x.seen,0≤n∧n≤1000000000):PE H j q N ⟨x.c,78,0,true⟩ (IC.tl 4 i107) fun o=>seeW true x.seen o++[59,10]:=by
 intro K o v L env h0 h3 hL hK
 simp at hL
 simp -implicitDefEqProofs[IC.tl,i107,StageP.c,rp,h0,h3]
 refine LI.cong (H':=wr H j q o v++(⟨x.c,78,0,true⟩::L)) rfl ?_
 refine loop107b hp hn hE (res:=seeW true x.seen o) (by omega) (fun env v G h0 => ?_) x.seen.length 0 o v L _ (by omega) (by simp) (by simp[h0,rp]) (by simp) (by simp) (by simp)
 simp -implicitDefEqProofs[h0,rp]
 refine call_go (add_at hp _ v (l:=[[59,10]]) (T:=9) (by simp; rfl) rfl (by simp) (by simp; omega)) ?_
 simp -implicitDefEqProofs
 exact hK _ _ _
theorem ok107 {x:StageP} (hx:x.dl) (hE:∀ e∈x.wt,PrK 73 [e.v] (prE e)):PrK 107 [.agg x.c] (dealW x):=by
 intro H j q o v hp hL
 have hj:=hp.lj
 refine okP_fn hm Tryz.func107 c107 (by simp[rp,SV.under,hj,StageP.und]) fun hcl => ?_
 have h:=(PG.mk (pc107_1 (N:=Tryz.f107.ntmps) hp hx.lo hx.hi) (app_grow _)).seqE ((PG.mk (pc107_2 hp hx.wt.len hE) (fW_grow wtW_grow _)).seqE ((PG.mk (pc107_3 hp x) (allW_grow _)).seqE ⟨pc107_4 hp hx.len hx.seen,fun o=>Nat.le_trans (seeW_grow _ _ _) (app_grow _ _)⟩))
 rw[show i107=.seq (IC.nth 0 i107) (.seq (IC.nth 1 i107) (.seq (IC.nth 2 i107) (.seq (IC.nth 3 i107) (IC.tl 4 i107))))from rfl]
 generalize (IC.seq (IC.nth 1 i107) (.seq (IC.nth 2 i107) (.seq (IC.nth 3 i107) (IC.tl 4 i107))))=t at h
 simp -implicitDefEqProofs[IC.nth,i107]
 refine h.pc _ o v [] _ (by simp[rp]) (by simp[rp]) hL fun env v' G => ?_
 simp -implicitDefEqProofs[r107]
 exact pr_end hp hcl (by simp) _ rfl
end
end Go.Proofs.YtmkdpmfhlfhjkaaGreatDoor
namespace Go.Proofs.YtmkdpmfhlfhjkaaGreatDoor
open Go.Ab
def lblW (s:List UInt8) (o:List UInt8):List UInt8:=if s=[]then o else o++(s++[58,32])
theorem lblW_grow (s:List UInt8):Grow (lblW s):=fun o=>by unfold lblW; split<;>simp
theorem actW_grow (a:ActP):Grow (actW a):=fun o=>by
 unfold actW
 have h1:=goW_grow a.go (fW setW a.sets (hidW a.hid (fW whenW a.wh (o++([32,32,97,99,116,105,111,110,32]++a.nm)))++[32,123])++[32,125])
 have h2:=fW_grow setW_grow a.sets (hidW a.hid (fW whenW a.wh (o++([32,32,97,99,116,105,111,110,32]++a.nm)))++[32,123])
 have h3:=hidW_grow a.hid (fW whenW a.wh (o++([32,32,97,99,116,105,111,110,32]++a.nm)))
 have h4:=fW_grow whenW_grow a.wh (o++([32,32,97,99,116,105,111,110,32]++a.nm))
 simp at h1 h2 h3 h4 ⊢
 omega
theorem dealW_grow (x:StageP):Grow (dealW x):=fun o=>by
 unfold dealW
 refine Nat.le_trans (Nat.le_trans (Nat.le_trans (app_grow _ o) (fW_grow wtW_grow _ _)) (allW_grow _ _)) (Nat.le_trans (seeW_grow _ _ _) (app_grow _ _))
def turnW (w:Ex) (l:List ActP) (o:List UInt8):List UInt8:=fW actW l (prE w (o++[116,117,114,110,32])++[32,123,10])++[125,10]
def endW (l:List Ex) (o:List UInt8):List UInt8:=lstW true (prF l) (o++[101,110,100,32,123,32,112,97,121,32])++[59,32,125,10]
theorem turnW_grow (w:Ex) (l:List ActP):Grow (turnW w l):=fun o=>by
 unfold turnW
 exact Nat.le_trans (Nat.le_trans (app_grow _ o) (prE_grow _ _)) (Nat.le_trans (Nat.le_trans (app_grow _ _) (fW_grow actW_grow _ _)) (app_grow _ _))
theorem endW_grow (l:List Ex):Grow (endW l):=fun o=>by
 unfold endW
 exact Nat.le_trans (app_grow _ o) (Nat.le_trans (lstW_grow _ _ (prF_grow l) _) (app_grow _ _))
def bodW (x:StageP):List UInt8->List UInt8:=if x.k=1 then dealW x else if x.k=2 then(match x.who with | []=>id | w::_=>turnW w x.acts)else endW x.pays
theorem bodW_grow (x:StageP):Grow (bodW x):=by
 unfold bodW
 split
 · exact dealW_grow x
 · split
   · split
     · exact fun o=>Nat.le_refl _
     · exact turnW_grow _ _
   · exact endW_grow _
def stgW (x:StageP) (o:List UInt8):List UInt8:=bodW x (lblW x.lb o)
theorem stgW_grow (x:StageP):Grow (stgW x):=fun o=>Nat.le_trans (lblW_grow _ _) (bodW_grow _ _)
def k50:IC:=match l50_1 with | .keep _ a=>a | a=>a
def b50:IC:=match IC.nth 2 k50 with | .blk _ a=>a | a=>a
theorem k50_eq:l50_1=.keep [0,51,52,53] (.seq (IC.nth 0 k50) (.seq (IC.nth 1 k50) (.seq (IC.nth 2 k50) (IC.tl 3 k50)))):=rfl
theorem b50_eq:IC.nth 2 k50=.blk 3 (.seq (IC.nth 0 b50) (.seq (IC.nth 1 b50) (IC.tl 2 b50))):=rfl
section
variable {H:List AO} {j q v0 N:Nat} {o0:List UInt8}
theorem lbl50 (hp:PrA H j q o0 v0) (x:StageP) {K:XE->Env->List AO->Prop} (o:List UInt8) (v:Nat) (G:List AO) (env:Env) (h0:env.get 0=rp j) (h7:env.get 7=rp H.length) (hL:(lblW x.lb o).length≤140737488355328)
 (hK:∀ env' v' G',(∀ k∈[0,7,51,52,53],env'.get k=env.get k)->K .normal env' (wr H j q (lblW x.lb o) v'++(⟨x.c,78,0,true⟩::G'))) :
 X Tryz.prog N drawB (IC.nth 1 b50) env (wr H j q o v++(⟨x.c,78,0,true⟩::G)) K:=by
 have hF:lblW x.lb o=if x.lb=[]then o else o++(x.lb++[58,32]):=rfl
 obtain⟨k,lb,nm,lo,hi,wt,all,seen,who,acts,pays,p⟩:=x
 by_cases h:lb=[]
 · subst h
   simp only[if_true]at hF
   simp only[hF]at hL hK
   simp -implicitDefEqProofs[IC.nth,b50,k50,l50_1,StageP.c,rp,h0,h7]
   exact hK _ _ _ (by simp)
 · simp only at hF hL hK
   rw[if_neg h]at hF
   rw[hF]at hL hK
   simp at hL
   have hB:¬ B lb=B []:=fun h'=>h (B_inj.1 h')
   simp -implicitDefEqProofs[IC.nth,b50,k50,l50_1,StageP.c,rp,h0,h7,h,hB]
   refine call_go (add_at hp o v (l:=[lb,[58,32]]) (T:=9) (by simp; rfl) rfl (by simp) (by simp; omega)) ?_
   simp -implicitDefEqProofs
   exact hK _ _ _ (by simp)
theorem sw50d (hp:PrA H j q o0 v0) {x:StageP} (hx:x.dl) (hk:x.k=1) {K:XE->Env->List AO->Prop} (o:List UInt8) (v:Nat) (G:List AO) (env:Env) (h0:env.get 0=rp j) (h7:env.get 7=rp H.length) (hL:(dealW x o).length≤140737488355328)
 (hK:∀ env' v' G',(∀ k∈[0,51,52,53],env'.get k=env.get k)->K .normal env' (wr H j q (dealW x o) v'++(⟨x.c,78,0,true⟩::G'))) :
 X Tryz.prog N drawB (IC.tl 2 b50) env (wr H j q o v++(⟨x.c,78,0,true⟩::G)) K:=by
 have h107:=ok107 hx fun e he=>ok73 e (hx.wt.prp e he)
 have key:=fun L=>h107.at hp o v L hL
 generalize dealW x o=o1 at hK key
 obtain⟨k,lb,nm,lo,hi,wt,all,seen,who,acts,pays,p⟩:=x
 simp only at hk; subst hk
 simp only[StageP.c]at key hK
 simp -implicitDefEqProofs[IC.nth,IC.tl,b50,k50,l50_1,StageP.c,rp,h0,h7,exS]
 refine call_goP (key _) ?_
 rintro out H' ⟨rfl,v',rfl⟩
 simp -implicitDefEqProofs
 exact hK _ _ _ (by simp)
theorem sw50e (hp:PrA H j q o0 v0) {x:StageP} (hx:ExsR x.pays) (hk:x.k=3) {K:XE->Env->List AO->Prop} (o:List UInt8) (v:Nat) (G:List AO) (env:Env) (h0:env.get 0=rp j) (h7:env.get 7=rp H.length) (hL:(endW x.pays o).length≤140737488355328)
 (hK:∀ env' v' G',(∀ k∈[0,51,52,53],env'.get k=env.get k)->K .normal env' (wr H j q (endW x.pays o) v'++(⟨x.c,78,0,true⟩::G'))) :
 X Tryz.prog N drawB (IC.tl 2 b50) env (wr H j q o v++(⟨x.c,78,0,true⟩::G)) K:=by
 have h109:=ok109 hx.len fun e he=>ok73 e (hx.prp e he)
 unfold endW at hL hK
 have hg:=lstW_grow (prF x.pays) true (prF_grow x.pays) (o++[101,110,100,32,123,32,112,97,121,32])
 have key:=fun o v L h=>h109.at hp o v L h
 simp at hL hg
 generalize lstW true (prF x.pays)=f at *
 obtain⟨k,lb,nm,lo,hi,wt,all,seen,who,acts,pays,p⟩:=x
 simp only at hk; subst hk
 simp only[StageP.c]at key hK
 simp -implicitDefEqProofs[IC.nth,IC.tl,b50,k50,l50_1,StageP.c,rp,h0,h7,exS]
 refine call_go (add_at hp o v (l:=[[101,110,100,32,123,32,112,97,121,32]]) (T:=9) (by simp; rfl) rfl (by simp) (by simp; omega)) ?_
 simp -implicitDefEqProofs[rp,h0,h7,exS]
 refine call_goP (key _ _ _ (by omega)) ?_
 rintro out H' ⟨rfl,v',rfl⟩
 simp -implicitDefEqProofs[rp,h0,h7,exS]
 refine call_go (add_at hp _ v' (l:=[[59,32,125,10]]) (T:=9) (by simp; rfl) rfl (by simp) (by simp; omega)) ?_
 simp -implicitDefEqProofs
 exact hK _ _ _ (by simp)
theorem loop50_2 (hp:PrA H j q o0 v0) {x:StageP} (hn:x.acts.length<2147483648) (hE:∀ a∈x.acts,PrK 108 [.agg a.c] (actW a)) {res:List UInt8} (hL:res.length≤140737488355328) {env0:Env} {K:XE->Env->List AO->Prop}
 (hexit:∀ env v G,(∀ k∈[0,51,52,53],env.get k=env0.get k)->K (.exit 5) env (wr H j q res v++(⟨x.c,78,0,true⟩::G))) :
 ∀ (m i:Nat) (o:List UInt8) (v:Nat) (G:List AO) (env:Env),i+m=x.acts.length->fW actW (x.acts.drop i) o=res->(∀ k∈[0,51,52,53],env.get k=env0.get k)->env.get 0=rp j->env.get 97=.slc (rws ActP.c x.acts) x.acts.length->env.get 98=i64 x.acts.length->env.get 99=i64 i →
  LI Tryz.prog N drawB l50_2 env (wr H j q o v++(⟨x.c,78,0,true⟩::G)) K:=by
 have hlen:=rws_len ActP.c_len x.acts
 intro m
 induction m with
 | zero =>
  intro i o v G env hi hr hks h0 h97 h98 h99
  refine li_go hm l50_2.eq_1 ?_
  have e:i=x.acts.length:=by omega
  subst e
  rw[List.drop_length,fW]at hr
  subst hr
  simp -implicitDefEqProofs[h0,h97,h98,h99]
  exact hexit _ _ _ (by simpa[h0]using hks)
 | succ m ih =>
  intro i o v G env hi hr hks h0 h97 h98 h99
  refine li_go hm l50_2.eq_1 ?_
  have hlt:i<x.acts.length:=by omega
  have hlt':(i:Int)<x.acts.length:=by omega
  have hg:=row_get (c:=ActP.c) ActP.c_len hlt
  have he:=hE x.acts[i] (List.getElem_mem hlt)
  rw[List.drop_eq_getElem_cons hlt,fW]at hr
  have hgr:=fW_grow actW_grow (x.acts.drop (i+1)) (actW x.acts[i] o)
  rw[hr]at hgr
  have ih:=ih (i+1)
  generalize x.acts[i]=a at hg he hr hgr
  have key:=fun L=>he.at hp o v L (by omega)
  generalize actW a o=o1 at key hr hgr
  simp -implicitDefEqProofs[h0,h97,h98,h99,hlt,hlt',hg,hlen]
  refine⟨by omega,call_goP (key _) ?_⟩
  rintro out H' ⟨rfl,v',rfl⟩
  simp -implicitDefEqProofs[h0,h97,h98,h99,hlt,hlt']
  refine ih _ v' _ _ (by omega) hr (by simpa[h0]using hks) ?_ ?_ ?_ ?_
  all_goals simp[h0,h97,h98,h99,wrap_suc (show i<9223372036854775807 by omega)]
theorem sw50t (hp:PrA H j q o0 v0) {x:StageP} (hx:x.tn) (hk:x.k=2) {K:XE->Env->List AO->Prop} (o:List UInt8) (v:Nat) (G:List AO) (env:Env) (h0:env.get 0=rp j) (h7:env.get 7=rp H.length) (hL:(bodW x o).length≤140737488355328)
 (hK:∀ env' v' G',(∀ k∈[0,51,52,53],env'.get k=env.get k)->K .normal env' (wr H j q (bodW x o) v'++(⟨x.c,78,0,true⟩::G'))) :
 X Tryz.prog N drawB (IC.tl 2 b50) env (wr H j q o v++(⟨x.c,78,0,true⟩::G)) K:=by
 obtain⟨w,hw⟩:∃ w,x.who=[w]:=by
  have:=hx.who1
  match h:x.who,this with
  | [w],_=>exact⟨w,rfl⟩
 have hF:bodW x o=turnW w x.acts o:=by
  unfold bodW
  rw[if_neg (by omega),if_pos hk,hw]
 rw[hF]at hL hK
 unfold turnW at hL hK
 have hwp:w.prp:=hx.who.prp w (by rw[hw]; simp)
 have key:=fun o v L h=>(ok73 w hwp).at hp o v L h
 have hA:∀ a∈x.acts,PrK 108 [.agg a.c] (actW a):=fun a ha=>by
  have h:=hx.acts a ha
  exact ok108 h.wh.len h.len (fun e he=>ok73 e (h.wh.prp e he)) fun s hs=>ok73 s.e ((h.sets s hs).e.prp s.e (by simp))
 have g1:=prE_grow w (o++[116,117,114,110,32])
 have g2:=fW_grow actW_grow x.acts (prE w (o++[116,117,114,110,32])++[32,123,10])
 have hln:=hx.len
 generalize hres:fW actW x.acts (prE w (o++[116,117,114,110,32])++[32,123,10])=res at *
 simp at hL g1 g2
 have hlp:=fun(K:XE->Env->List AO->Prop) env0=>loop50_2 (N:=N) (env0:=env0) (K:=K) hp hln hA (res:=res) (by omega)
 have hcw:exS x.who=.slc w.c 1:=by rw[hw]; simp[exS,Ex.cL]
 have hxc:x.c=[i64 2,st (B x.lb),st (B x.nm),i64 x.lo,i64 x.hi,exS x.wt,bl x.all,.slc (ints x.seen) x.seen.length,.slc w.c 1,.slc (rws ActP.c x.acts) x.acts.length,exS x.pays,i64 x.p]:=by
  rw[←hcw,<- hk]; rfl
 have hc5:=Ex.c_len w
 have hcc:=Ex.take5 w
 simp only[Ex.v_c]at key
 rw[hxc]at hK hlp ⊢
 generalize w.c=wc at *
 simp -implicitDefEqProofs[IC.nth,IC.tl,b50,k50,l50_1,rp,h0,h7]
 refine call_go (add_at hp o v (l:=[[116,117,114,110,32]]) (T:=9) (by simp; rfl) rfl (by simp) (by simp; omega)) ?_
 simp -implicitDefEqProofs[rp,h0,h7,hc5,hcc]
 refine call_goP (key (o++[116,117,114,110,32]) _ _ (by omega)) ?_
 rintro out H' ⟨rfl,v',rfl⟩
 simp -implicitDefEqProofs[rp,h0,h7,hc5,hcc]
 refine call_go (add_at hp _ v' (l:=[[32,123,10]]) (T:=9) (by simp; rfl) rfl (by simp) (by simp; omega)) ?_
 simp -implicitDefEqProofs[rp,h0,h7,hc5,hcc]
 refine hlp _ env (fun env' v G' hks => ?_) x.acts.length 0 _ _ _ _ (by omega) (by simpa using hres) (by simp) (by simp[rp,h0]) (by simp) (by simp) (by simp)
 have h0':env'.get 0=rp j:=by rw[hks 0 (by simp),h0]
 simp -implicitDefEqProofs[rp,h0']
 refine call_go (add_at hp _ _ (l:=[[125,10]]) (T:=9) (by simp; rfl) rfl (by simp) (by simp; omega)) ?_
 simp -implicitDefEqProofs
 exact hK _ _ _ (by simpa[h0,rp,h0']using hks)
theorem sw50 (hp:PrA H j q o0 v0) {x:StageP} (hx:x.prp) {K:XE->Env->List AO->Prop} (o:List UInt8) (v:Nat) (G:List AO) (env:Env) (h0:env.get 0=rp j) (h7:env.get 7=rp H.length) (hL:(bodW x o).length≤140737488355328)
 (hK:∀ env' v' G',(∀ k∈[0,51,52,53],env'.get k=env.get k)->K .normal env' (wr H j q (bodW x o) v'++(⟨x.c,78,0,true⟩::G'))) :
 X Tryz.prog N drawB (IC.tl 2 b50) env (wr H j q o v++(⟨x.c,78,0,true⟩::G)) K:=by
 rcases hx.kd with ⟨hk,hd,e1,e2,e3⟩ | ⟨hk,he⟩ | ⟨hk,he⟩
 · have hF:bodW x o=dealW x o:=by unfold bodW; rw[if_pos hk]
   rw[hF]at hL hK
   exact sw50d hp hd hk o v G env h0 h7 hL hK
 · exact sw50t hp he hk o v G env h0 h7 hL hK
 · have hF:bodW x o=endW x.pays o:=by unfold bodW; rw[if_neg (by omega),if_neg (by omega)]
   rw[hF]at hL hK
   exact sw50e hp he.pays hk o v G env h0 h7 hL hK
end
end Go.Proofs.YtmkdpmfhlfhjkaaGreatDoor
namespace Go.Proofs.YtmkdpmfhlfhjkaaGreatDoor
open Go.Ab
section
variable {H:List AO} {j q v0 N:Nat} {o0:List UInt8}
theorem loop50_1 (hp:PrA H j q o0 v0) {r:RulesP} (hn:r.stages.length<2147483648) (hE:∀ x∈r.stages,x.prp) {res:List UInt8} (hL:res.length≤140737488355328) {K:XE->Env->List AO->Prop}
 (hexit:∀ env v G,K (.exit 2) env (wr H j q res v++(⟨r.c,36,0,true⟩::G))) :
 ∀ (m i:Nat) (o:List UInt8) (v:Nat) (G:List AO) (env:Env),i+m=r.stages.length->fW stgW (r.stages.drop i) o=res->env.get 0=rp j->env.get 51=.slc (rws StageP.c r.stages) r.stages.length->env.get 52=i64 r.stages.length->env.get 53=i64 i →
  LI Tryz.prog N drawB l50_1 env (wr H j q o v++(⟨r.c,36,0,true⟩::G)) K:=by
 have hlen:=rws_len StageP.c_len r.stages
 intro m
 induction m with
 | zero =>
  intro i o v G env hi hr h0 h51 h52 h53
  refine li_go hm l50_1.eq_1 ?_
  have e:i=r.stages.length:=by omega
  subst e
  rw[List.drop_length,fW]at hr
  subst hr
  simp -implicitDefEqProofs[h0,h51,h52,h53]
  exact hexit _ _ _
 | succ m ih =>
  intro i o v G env hi hr h0 h51 h52 h53
  refine li_go hm k50_eq ?_
  generalize hK:(fun(x:XE) (env:Env) (H:List AO)=>match x with | .normal=>LI Tryz.prog N drawB l50_1 env H K | x=>K x env H)=K'
  have hKn:∀ env H,K' .normal env H=LI Tryz.prog N drawB l50_1 env H K:=fun env H=>by rw[←hK]
  clear hK
  have hlt:i<r.stages.length:=by omega
  have hlt':(i:Int)<r.stages.length:=by omega
  have hg:=row_get (c:=StageP.c) StageP.c_len hlt
  have hx:=hE r.stages[i] (List.getElem_mem hlt)
  rw[List.drop_eq_getElem_cons hlt,fW]at hr
  have hgr:=fW_grow stgW_grow (r.stages.drop (i+1)) (stgW r.stages[i] o)
  rw[hr]at hgr
  have ih:=ih (i+1)
  generalize r.stages[i]=x at hg hx hr hgr
  have inc:∀ (env:Env) (v:Nat) (G:List AO),env.get 0=rp j->env.get 51=.slc (rws StageP.c r.stages) r.stages.length->env.get 52=i64 r.stages.length->env.get 53=i64 i →
   X Tryz.prog N drawB (IC.tl 3 k50) env (wr H j q (stgW x o) v++(⟨r.c,36,0,true⟩::G)) K':=by
   intro env v G h0 h51 h52 h53
   simp -implicitDefEqProofs[IC.tl,k50,l50_1,h0,h51,h52,h53]
   rw[hKn]
   refine ih _ v _ _ (by omega) hr ?_ ?_ ?_ ?_
   all_goals simp[h0,h51,h52,h53,wrap_suc (show i<9223372036854775807 by omega)]
  have g2:=bodW_grow x (lblW x.lb o)
  have hst:stgW x o=bodW x (lblW x.lb o):=rfl
  rw[hst]at inc hgr
  have hpa:=fun L=>hp.app L
  have hlb:=fun(K:XE->Env->List AO->Prop)=>lbl50 (N:=N) (K:=K) (hp.app (⟨r.c,36,0,true⟩::G)) x o v []
  have hsw:=fun(K:XE->Env->List AO->Prop)=>sw50 (N:=N) (K:=K) (hp.app (⟨r.c,36,0,true⟩::G)) hx (lblW x.lb o)
  simp only[wr_app hp.lj hp.lq]at hlb hsw
  generalize ht3:IC.tl 3 k50=t3 at inc ⊢
  generalize ht2:IC.nth 2 k50=t2
  simp -implicitDefEqProofs[IC.nth,k50,l50_1,h0,h51,h52,h53,hlt']
  subst ht2
  rw[b50_eq,X_blk]
  generalize ht4:IC.tl 2 b50=t4 at hsw ⊢
  generalize ht5:IC.nth 1 b50=t5 at hlb ⊢
  simp -implicitDefEqProofs[IC.nth,b50,k50,l50_1,h0,h51,h52,h53,hlt,hlt',hg,hlen]
  refine⟨by omega,Xc (by simp) (hlb _ _ (by simp) (by simp[rp]) (by omega) fun env1 v1 G1 k1 => ?_)⟩
  have q0:=k1 0 (by simp); have q7:=k1 7 (by simp); have q51:=k1 51 (by simp); have q52:=k1 52 (by simp); have q53:=k1 53 (by simp)
  simp at q0 q7 q51 q52 q53
  refine hsw _ v1 G1 env1 q0 (by rw[q7]; simp[rp]) (by omega) fun env2 v2 G2 k2 => ?_
  have p0:=k2 0 (by simp); have p51:=k2 51 (by simp); have p52:=k2 52 (by simp); have p53:=k2 53 (by simp)
  rw[q0]at p0; rw[q51]at p51; rw[q52]at p52; rw[q53]at p53
  exact Xc (by simp) (inc env2 v2 (G++(⟨x.c,78,0,true⟩::G2)) p0 p51 p52 p53)
def nmbW (n:Int) (o:List UInt8):List UInt8:=if n<0 then o++([45,32]++decI (-n))else o++decI n
theorem nmbW_grow (n:Int):Grow (nmbW n):=fun o=>by unfold nmbW; split<;>simp
def varW (v:VarP) (o:List UInt8):List UInt8:=nmbW v.n (o++([118,97,114,32]++(v.nm++[32,61,32])))++[59,10]
theorem varW_grow (v:VarP):Grow (varW v):=fun o=>Nat.le_trans (Nat.le_trans (app_grow _ o) (nmbW_grow _ _)) (app_grow _ _)
theorem loop50_0 (hp:PrA H j q o0 v0) {r:RulesP} (hn:r.vars.length<2147483648) (hE:∀ x∈r.vars,x.prp) {res:List UInt8} (hL:res.length≤140737488355328) {K:XE->Env->List AO->Prop}
 (hexit:∀ env v G,env.get 0=rp j->env.get 3=rp H.length->K (.exit 0) env (wr H j q res v++(⟨r.c,36,0,true⟩::G))) :
 ∀ (m i:Nat) (o:List UInt8) (v:Nat) (G:List AO) (env:Env),i+m=r.vars.length->fW varW (r.vars.drop i) o=res->env.get 0=rp j->env.get 3=rp H.length->env.get 19=.slc (rws VarP.c r.vars) r.vars.length->env.get 20=i64 r.vars.length->env.get 21=i64 i →
  LI Tryz.prog N drawB l50_0 env (wr H j q o v++(⟨r.c,36,0,true⟩::G)) K:=by
 have hlen:=rws_len VarP.len r.vars
 intro m
 induction m with
 | zero =>
  intro i o v G env hi hr h0 h3 h19 h20 h21
  refine li_go hm l50_0.eq_1 ?_
  have e:i=r.vars.length:=by omega
  subst e
  rw[List.drop_length,fW]at hr
  subst hr
  simp -implicitDefEqProofs[h0,h3,h19,h20,h21]
  exact hexit _ _ _ (by simp[h0]) (by simp[h3])
 | succ m ih =>
  intro i o v G env hi hr h0 h3 h19 h20 h21
  refine li_go hm l50_0.eq_1 ?_
  have hlt:i<r.vars.length:=by omega
  have hlt':(i:Int)<r.vars.length:=by omega
  have hg:=row_get (c:=VarP.c) VarP.len hlt
  have hx:=hE r.vars[i] (List.getElem_mem hlt)
  rw[List.drop_eq_getElem_cons hlt,fW]at hr
  have hgr:=fW_grow varW_grow (r.vars.drop (i+1)) (varW r.vars[i] o)
  rw[hr]at hgr
  have ih:=ih (i+1)
  generalize r.vars[i]=x at hg hx hr hgr
  have hb:=hx.lo; have hb':=hx.hi
  have hnw:=nmbW_grow x.n (o++([118,97,114,32]++(x.nm++[32,61,32])))
  have hst:varW x o=nmbW x.n (o++([118,97,114,32]++(x.nm++[32,61,32])))++[59,10]:=rfl
  rw[hst]at hr hgr
  simp at hgr hnw
  simp -implicitDefEqProofs[h0,h3,h19,h20,h21,hlt,hlt',hg,hlen,VarP.c]
  refine⟨by omega,call_go (add_at hp o v (l:=[[118,97,114,32],x.nm,[32,61,32]]) (T:=9) (by simp; rfl) rfl (by simp) (by simp; omega)) ?_⟩
  by_cases hneg:x.n<0
  · have hF:nmbW x.n (o++([118,97,114,32]++(x.nm++[32,61,32])))=(o++([118,97,114,32]++(x.nm++[32,61,32])))++([45,32]++decI (-x.n)):=by unfold nmbW; rw[if_pos hneg]
    have hN:=fun H=>numK (by omega:0 ≤ -x.n) (by omega : -x.n≤9223372036854775807) H
    have hw:IntKind.i64.wrap (-x.n) = -x.n:=wrap_id (by omega) (by omega)
    simp only[List.cons_append,List.nil_append]at hF
    rw[hF]at hgr
    simp only[List.cons_append,List.nil_append]at hr
    rw[hF]at hr
    simp at hgr
    simp -implicitDefEqProofs[h0,h3,h19,h20,h21,hlt,hlt',hneg,hw]
    refine call_go (hN _) ?_
    simp -implicitDefEqProofs[h0,h3,h19,h20,h21,hlt,hlt',hneg,hw]
    refine call_go (add_at hp _ _ (l:=[[45,32],decI (-x.n)]) (T:=9) (by simp; rfl) rfl (by simp) (by simp; omega)) ?_
    simp -implicitDefEqProofs[h0,h3,h19,h20,h21,hlt,hlt']
    refine call_go (add_at hp _ _ (l:=[[59,10]]) (T:=9) (by simp; rfl) rfl (by simp) (by simp; omega)) ?_
    simp -implicitDefEqProofs[h0,h3,h19,h20,h21,hlt,hlt']
    refine ih _ _ _ _ (by omega) (by simpa using hr) ?_ ?_ ?_ ?_ ?_
    all_goals simp[h0,h3,h19,h20,h21,wrap_suc (show i<9223372036854775807 by omega)]
  · have hF:nmbW x.n (o++([118,97,114,32]++(x.nm++[32,61,32])))=(o++([118,97,114,32]++(x.nm++[32,61,32])))++decI x.n:=by unfold nmbW; rw[if_neg hneg]
    have hN:=fun H=>numK (by omega:0≤x.n) (by omega:x.n≤9223372036854775807) H
    simp only[List.cons_append,List.nil_append]at hF
    rw[hF]at hgr
    simp only[List.cons_append,List.nil_append]at hr
    rw[hF]at hr
    simp at hgr
    simp -implicitDefEqProofs[h0,h3,h19,h20,h21,hlt,hlt',hneg]
    refine call_go (hN _) ?_
    simp -implicitDefEqProofs[h0,h3,h19,h20,h21,hlt,hlt',hneg]
    refine call_go (add_at hp _ _ (l:=[decI x.n]) (T:=9) (by simp; rfl) rfl (by simp) (by simp; omega)) ?_
    simp -implicitDefEqProofs[h0,h3,h19,h20,h21,hlt,hlt']
    refine call_go (add_at hp _ _ (l:=[[59,10]]) (T:=9) (by simp; rfl) rfl (by simp) (by simp; omega)) ?_
    simp -implicitDefEqProofs[h0,h3,h19,h20,h21,hlt,hlt']
    refine ih _ _ _ _ (by omega) (by simpa using hr) ?_ ?_ ?_ ?_ ?_
    all_goals simp[h0,h3,h19,h20,h21,wrap_suc (show i<9223372036854775807 by omega)]
theorem pc50_1 (hp:PrA H j q o0 v0) {r:RulesP} (hpl:0≤r.pl∧r.pl≤1000000000):PcW H j q N ⟨r.c,36,0,true⟩ (IC.nth 1 i50) fun o=>o++([103,97,109,101,32]++(r.nm++([59,10,112,108,97,121,101,114,115,32]++(decI r.pl++[59,10])))):=by
 intro K o v L env h0 h3 hL hK
 have n1:=fun H=>numK hpl.1 (by omega:r.pl≤9223372036854775807) H
 simp at hL
 simp -implicitDefEqProofs[IC.nth,IC.tl,i50,RulesP.c,rp,h0,h3]
 refine callq_st (r:=st (B (decI r.pl))) (fun _=>n1 _) ?_
 simp -implicitDefEqProofs[rp,h0,h3]
 refine call_go (add_at hp o v (l:=[[103,97,109,101,32],r.nm,[59,10,112,108,97,121,101,114,115,32],decI r.pl,[59,10]]) (T:=9) (by simp; rfl) rfl (by simp) (by simp; omega)) ?_
 simp -implicitDefEqProofs
 exact⟨okC_go (n1 _),hK _ _ _ (by simp[h0,rp]) (by simp[h3,rp])⟩
theorem pc50_2 (hp:PrA H j q o0 v0) {r:RulesP} (hr:r.prp):PcW H j q N ⟨r.c,36,0,true⟩ (IC.nth 2 i50) (fW varW r.vars):=by
 intro K o v L env h0 h3 hL hK
 simp -implicitDefEqProofs[IC.nth,i50,RulesP.c,rp,h0,h3]
 refine LI.cong (H':=wr H j q o v++(⟨r.c,36,0,true⟩::L)) rfl ?_
 refine loop50_0 hp hr.vlen hr.vars hL (fun env v G h0 h3 => ?_) r.vars.length 0 o v L _ (by omega) (by simp) (by simp[h0,rp]) (by simp[h3,rp]) (by simp) (by simp) (by simp)
 simp -implicitDefEqProofs
 exact hK _ _ _ (by simp[h0,rp]) (by simp[h3,rp])
theorem pc50_3 (hp:PrA H j q o0 v0) {r:RulesP} (hr:r.prp):PE H j q N ⟨r.c,36,0,true⟩ (IC.tl 3 i50) (fW stgW r.stages):=by
 intro K o v L env h0 h3 hL hK
 simp -implicitDefEqProofs[IC.tl,i50,RulesP.c,rp,h0,h3]
 refine LI.cong (H':=wr H j q o v++(⟨r.c,36,0,true⟩::L)) rfl ?_
 refine loop50_1 hp hr.slen hr.stages hL (fun env v G => ?_) r.stages.length 0 o v L _ (by omega) (by simp) (by simp[h0,rp]) (by simp) (by simp) (by simp)
 simp -implicitDefEqProofs
 exact hK _ _ _
def rulW (r:RulesP) (o:List UInt8):List UInt8 :=
 fW stgW r.stages (fW varW r.vars (o++([103,97,109,101,32]++(r.nm++([59,10,112,108,97,121,101,114,115,32]++(decI r.pl++[59,10]))))))
theorem ok50 {r:RulesP} (hr:r.prp):PrK 50 [.agg r.c] (rulW r):=by
 intro H j q o v hp hL
 have hj:=hp.lj
 refine okP_fn hm Tryz.func50 c50 (by simp[rp,SV.under,hj,rules_und]) fun hcl => ?_
 have h:=(PG.mk (pc50_1 (N:=Tryz.f50.ntmps) hp hr.pl) (app_grow _)).seqE ((PG.mk (pc50_2 hp hr) (fW_grow varW_grow _)).seqE ⟨pc50_3 hp hr,fW_grow stgW_grow _⟩)
 rw[show i50=.seq (IC.nth 0 i50) (.seq (IC.nth 1 i50) (.seq (IC.nth 2 i50) (IC.tl 3 i50)))from rfl]
 generalize (IC.seq (IC.nth 1 i50) (.seq (IC.nth 2 i50) (IC.tl 3 i50)))=t at h
 simp -implicitDefEqProofs[IC.nth,i50]
 refine⟨rc_ok r,h.pc _ o v [] _ (by simp[rp]) (by simp[rp]) hL fun env v' G => ?_⟩
 simp -implicitDefEqProofs[r50]
 exact pr_end hp hcl (by simp) _ rfl
end
end Go.Proofs.YtmkdpmfhlfhjkaaGreatDoor
namespace Go.Proofs.YtmkdpmfhlfhjkaaGreatDoor
open Go.Ab
def prnR (r:RulesP):List UInt8×Int :=
 if 20000<(rulW r []).length then([],4)else if(parseR (rulW r [])).2.1≠0 then([],(parseR (rulW r [])).2.1)else(rulW r [],0)
section
variable {H:List AO}
set_option maxHeartbeats 2000000 in
theorem ok20 {r:RulesP} (hr:r.prp) (hL:(rulW r []).length≤140737488355328):Ok Tryz.prog 20 [.agg r.c] H (.ret (.tup [st (B (prnR r).1),i64 (prnR r).2])) H:=by
 have hD:=draw_ok (P:=Tryz.prog) hm
 have h49:=fun H=>ok49 (H:=H) hr
 have h50:=ok50 hr
 have hcok:=rc_ok r
 have hcl4:=rc_len r
 have hct:=rc_take r
 have hcu:=rules_und (0:Nat) r
 have hprn:prnR r=if 20000<(rulW r []).length then([],4)else if(parseR (rulW r [])).2.1≠0 then([],(parseR (rulW r [])).2.1)else(rulW r [],0):=rfl
 refine ok_WI hm Tryz.func20 c20 (by simp[SV.under,rules_und]) fun hcl => ?_
 generalize r.c=c at *
 rw[show i20=.seq (IC.nth 0 i20) (.seq (IC.nth 1 i20) (.seq (IC.nth 2 i20) (IC.tl 3 i20)))from rfl]
 generalize ht:IC.tl 3 i20=t3
 refine WI.seq hD ?_
 simp -implicitDefEqProofs[IC.nth,i20]
 refine⟨hcok,?_⟩
 refine WI.seq hD ?_
 simp -implicitDefEqProofs[IC.nth,i20,hcl4,hct]
 refine call_go (h49 _) ?_
 simp -implicitDefEqProofs
 refine WI.seq hD ?_
 simp -implicitDefEqProofs[IC.nth,i20]
 refine WI.tell (Tell.own0 (j:=H.length+1) (p:=0) (o:=⟨[.val (.slice none 0 0)],85,0,true⟩) (by simp) rfl rfl 5 1) ?_
 simp -implicitDefEqProofs
 have hwr:∀ (o:List UInt8) (v:Nat),wr (H++[⟨c,36,0,true⟩,⟨[.own (H.length+2) 0 0 1 0],85,0,true⟩,⟨[],5,0,true⟩]) (H.length+1) (H.length+2) o v =
  H++[⟨c,36,0,true⟩,⟨[.own (H.length+2) 0 o.length 1 v],85,0,true⟩,⟨sbyts (B o),5,v,true⟩]:=fun o v=>by
  unfold wr prO byO
  rw[set_app,set_app]; rfl
 have hp:PrA (H++[⟨c,36,0,true⟩,⟨[.own (H.length+2) 0 0 1 0],85,0,true⟩,⟨[],5,0,true⟩]) (H.length+1) (H.length+2) [] 0:=⟨by simp[prO],by simp[byO]; rfl,by omega⟩
 have key:=h50 _ _ _ _ _ hp hL
 have hful:=fun v=>ok51 (hp.wr (rulW r []) v)
 rw[hwr]at key
 simp only[hwr]at key hful
 generalize rulW r []=s at *
 generalize prnR r=sh at *
 refine WI.of_X hD ?_
 rw[←ht]
 simp -implicitDefEqProofs[IC.tl,i20,r20,hcl4,hct]
 refine call_goP (OkP.cast (by simp[rp]) (by simp; rfl) key) ?_
 rintro out H' ⟨rfl,v',rfl⟩
 simp -implicitDefEqProofs
 refine call_go (hful v') ?_
 by_cases h2:20000<s.length
 · rw[if_pos h2]at hprn
   subst hprn
   simp -implicitDefEqProofs[h2]
   exact cv_fz 3 hcl rfl (by simp)
 rw[if_neg h2]at hprn
 have h14:=fun H=>ok14 (H:=H) (l:=s) (by omega)
 have hcok':=rc_ok (parseR s).1
 have hcl4':=rc_len (parseR s).1
 have hct':=rc_take (parseR s).1
 simp only[rulesV]at h14
 generalize (parseR s).1.c=c2 at *
 generalize (parseR s).2.1=er at *
 generalize (parseR s).2.2=po at *
 simp -implicitDefEqProofs[h2,bysB_B,bysS_B,sbyts_len]
 refine call_go (h14 _) ?_
 simp -implicitDefEqProofs[fltV,hcl4',hct']
 refine⟨hcok',?_⟩
 by_cases h0:er=0
 · rw[if_pos h0]
   rw[if_neg (by simpa using h0)]at hprn
   subst hprn
   exact cv_fz 3 hcl rfl (by simp; rfl)
 · rw[if_neg h0]
   rw[if_pos h0]at hprn
   subst hprn
   exact cv_fz 3 hcl rfl (by simp)
end
end Go.Proofs.YtmkdpmfhlfhjkaaGreatDoor
