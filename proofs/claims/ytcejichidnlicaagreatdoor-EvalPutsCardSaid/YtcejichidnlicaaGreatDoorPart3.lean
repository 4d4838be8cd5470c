/-
  Steps of the proof: contracts of functions and plain facts that the statement rests on.
-/
import Derived.Test.YtcejichidnlicaaGreatDoorPart2
import Derived.Test.YtcejichidnlicaaGreatDoorCore5
import Derived.Test.YtcejichidnlicaaGreatDoorCore4
import Derived.LaidMore
import Derived.OpenShut
import Derived.Stop.Joined
import Derived.LaidHandle
import Derived.JoinedCond
import Derived.JoinedAt
import Derived.Conc.Holds
import Derived.SevenTiedAt
set_option linter.all false
namespace Go.Proofs.YtcejichidnlicaaGreatDoor
open Go.Ab
variable [FrEnv]
def Ex.wd:Ex->List UInt8
 | .mk _ _ nm _ _=>nm
mutual
def putE (s:List UInt8) (n:Int):Ex->Ex
 | .mk op k nm l p=>if op=2 then(if nm=s then litE n p else .mk op k nm l p)else .mk op k nm (putL s n l) p
def putL (s:List UInt8) (n:Int):List Ex->List Ex
 | []=>[]
 | e::r=>putE s n e::putL s n r
end
theorem putL_map (s:List UInt8) (n:Int):∀ l:List Ex,putL s n l=l.map (putE s n)
 | []=>by rw[putL]; rfl
 | e::r=>by rw[putL,putL_map s n r]; rfl
mutual
def Ex.lim2:Ex->Prop
 | .mk _ _ _ l _=>l.length<2000000∧Ex.lim2L l
def Ex.lim2L:List Ex->Prop
 | []=>True
 | e::r=>e.lim2∧Ex.lim2L r
end
section
variable {H:List AO}
theorem ok35 {e:Ex} {s:List UInt8} {n:Int} (hn : -1000000000000≤n∧n≤1000000000000) {a b:Nat} (ha:H[a]? = some ⟨[st (B s)],9,0,true⟩) (hb:H[b]? = some ⟨[i64 n],3,0,true⟩) :
 Ok Tryz.prog 35 [e.v,rp a,rp b] H (.ret (if e.wd=s then litE n e.at else e).v) H:=by
 have h1:=getElem?_lt ha
 have h2:=getElem?_lt hb
 have e1:=fun L=>oc_app ha rfl rfl L
 have e2:=fun L=>oc_app hb rfl rfl L
 obtain⟨op,k,nm,l,p⟩:=e
 have h36:=fun H=>ok36 (H:=H) (n:=n) (p:=p) hn
 have hu:SV.underL H.length (litE n p).c=true:=Ex.und _ _
 have hc:cellsOk (litE n p).c:=by
  intro x hx
  generalize litE n p=y at hx
  obtain⟨op,n,nm,l,p⟩:=y
  simp only[Ex.c,List.mem_cons,List.not_mem_nil,or_false]at hx
  rcases hx with rfl | rfl | rfl | rfl | rfl<;>rfl
 have hl5:=Ex.c_len (litE n p)
 refine ok_fn hm Tryz.func35 c35 (by simp[rp,h1,h2,Ex.v,SV.under,Ex.und]) fun hcl => ?_
 by_cases hs:nm=s
 · subst hs
   simp -implicitDefEqProofs[i35,r35,Ex.v,Ex.c,rp,e1,e2,Ex.wd,Ex.at]
   refine call_go (h36 _) ?_
   simp -implicitDefEqProofs[Ex.v,hc,hl5]
   exact cv_fz 3 hcl rfl (fz_under (n:=H.length) (by simpa only[SV.under]using hu))
 · simp -implicitDefEqProofs[i35,r35,Ex.v,Ex.c,rp,e1,e2,hs,Ex.wd,Ex.at]
   exact cv_fz 3 hcl rfl (by simp)
theorem loop34 {l:List Ex} {d:Nat} (hd:d<100000) (hl:l.length<2000000) {f:SV} (hf:f.isCell=true) (hfv:f.vd=true) (hfu:f.ug=f) (hff:f.flat=[f]) {g:Ex->Ex} (hIH:∀ e∈l,∀ L,Ok Tryz.prog 34 [e.v,i64 ((d+1:Nat):Int),f] (H++L) (.ret (g e).v) (H++L)) {c:List SV} {Z:AO} {N:Nat} {K:XE->Env->List AO->Prop}
 (hexit:∀ env G,env.get 3=.ptr (.own H.length 0 0 0 0) 0->env.get 6=.ptr (.own (H.length+2) 0 0 0 0) 0->env.get 7=.own (H.length+3) 0 l.length 5 l.length->K (.exit 0) env (H++⟨c,24,0,true⟩::⟨[f],65,0,true⟩::Z::⟨Ex.cL (l.map g),24,l.length,true⟩::G)) :
 ∀ (m i:Nat) (es:List Ex) (G:List AO) (env:Env),i+m=l.length->es.length=i->es++(l.drop i).map g=l.map g->env.get 1=i64 d->env.get 3=.ptr (.own H.length 0 0 0 0) 0->env.get 5=.ptr (.own (H.length+1) 0 0 0 0) 0->env.get 6=.ptr (.own (H.length+2) 0 0 0 0) 0->env.get 7=.own (H.length+3) 0 es.length 5 es.length →
  env.get 25=.slc (Ex.cL l) l.length->env.get 26=i64 l.length->env.get 27=i64 i->LI Tryz.prog N drawB l34_0 env (H++⟨c,24,0,true⟩::⟨[f],65,0,true⟩::Z::⟨Ex.cL es,24,es.length,true⟩::G) K:=by
 intro m
 induction m with
 | zero =>
  intro i es G env hi he hq h1 h3 h5 h6 h7 h25 h26 h27
  refine li_go hm l34_0.eq_1 ?_
  have e:i=l.length:=by omega
  subst e
  rw[List.drop_length,List.map_nil,List.append_nil]at hq
  subst hq
  simp -implicitDefEqProofs[h1,h3,h5,h6,h7,h25,h26,h27,he]
  have:=hexit
  simp only[List.length_map]at he
  refine hexit _ G ?_ ?_ ?_<;>simp
 | succ m ih =>
  intro i es G env hi he hq h1 h3 h5 h6 h7 h25 h26 h27
  refine li_go hm l34_0.eq_1 ?_
  have hlt:i<l.length:=by omega
  have hlt':(i:Int)<l.length:=by omega
  have hg:=exL_get hlt
  have hcl':=exL_len l
  have w1:IntKind.i64.wrap ((d:Int)+1)=((d+1:Nat):Int):=wrap_succ (by omega)
  rw[List.drop_eq_getElem_cons hlt,List.map_cons]at hq
  have hIH':=hIH l[i] (List.getElem_mem hlt)
  simp -implicitDefEqProofs[h1,h3,h5,h6,h7,h25,h26,h27,hlt,hlt',hg,hcl',hfv,hfu]
  refine⟨by omega,call_go (by rw[w1]; exact hIH' _) ?_⟩
  simp -implicitDefEqProofs[h1,h3,h5,h6,h7,h25,h26,h27,Ex.v]
  have hel:(es++[g l[i]]).length=es.length+1:=by simp
  refine⟨by omega,by omega,exL_len es,LI.cong ?_ (ih (i+1) (es++[g l[i]]) (G++[⟨l[i].c,24,0,true⟩,⟨(g l[i]).c,24,0,true⟩]) _ (by omega) (by omega) (by rw[List.append_assoc]; exact hq) ?_ ?_ ?_ ?_ ?_ ?_ ?_ ?_)⟩
  · simp[exL_app,Ex.cL]
  all_goals simp[h1,h3,h5,h6,h25,h26,wrap_suc (show i<9223372036854775807 by omega)]
theorem fin34 (hcl:closed H) {op k p:Int} {nm:List UInt8} {l es:List Ex} {env:Env} {f:SV} {Z:List SV} (hZ:Z.length=5) {G:List AO} (h3:env.get 3=.ptr (.own H.length 0 0 0 0) 0) (h6:env.get 6=.ptr (.own (H.length+2) 0 0 0 0) 0) (h7:env.get 7=.own (H.length+3) 0 es.length 5 es.length) {x:SV} :
 X Tryz.prog Tryz.f34.ntmps drawB (.seq (.reg [⟨some 40,none,.p (.mov (.t 7))⟩,⟨some 41,none,.p (.fa 3 (.t 3))⟩,⟨none,none,.e (.st 1 (.t 41) (.t 40))⟩]) (.seq (.reg [⟨some 42,none,.p (.ldn 5 (.t 3))⟩,⟨none,none,.e (.st 5 (.t 6) (.t 42))⟩]) .ret)) env
  (H++⟨[i64 op,i64 k,st (B nm),x,i64 p],24,0,true⟩::⟨[f],65,0,true⟩::⟨Z,24,0,true⟩::⟨Ex.cL es,24,es.length,true⟩::G) (Ab.Fin H.length r34 (.ret (Ex.mk op k nm es p).v) H):=by
 have hZ2:List.drop 5 Z=[]:=List.drop_of_length_le (by omega)
 simp -implicitDefEqProofs[r34,h3,h6,h7,hZ,hZ2]
 exact cv_fz 3 hcl rfl (by simp[Ex.v,Ex.c,exL_len,take_cL])
mutual
theorem ok34n:∀ (e:Ex) (d:Nat),d+e.hgt≤100000->e.lim2->∀ H,Ok Tryz.prog 34 [e.v,i64 d,.val .nilFunc] H (.ret e.v) H
 | .mk op k nm l p,d,hd,hll,H=>by
  rw[Ex.hgt]at hd
  have hIH:=ok34nL l (d+1) (by omega) hll.2
  have hd':¬ (d:Int)=100000:=by omega
  refine ok_fn hm Tryz.func34 c34 (by simp[Ex.und_v]) fun hcl => ?_
  by_cases h2:op=2
  · subst h2
    simp -implicitDefEqProofs[i34,Ex.v,Ex.c,hd']
    refine⟨rfl,LI.cong (H':=H++⟨[i64 2,i64 k,st (B nm),.slc (Ex.cL l) l.length,i64 p],24,0,true⟩::⟨[.val .nilFunc],65,0,true⟩::⟨[i64 0,i64 0,st (B []),.val (.slice none 0 0),i64 0],24,0,true⟩::⟨Ex.cL [],24,0,true⟩::[]) (by simp[Ex.cL]) (loop34 (g:=id) (by omega) hll.1 rfl rfl rfl rfl (fun e he L=>hIH e he _) (fun env G h3 h6 h7 => ?_) l.length 0 [] [] _ (by omega) rfl (by simp) ?_ ?_ ?_ ?_ ?_ ?_ ?_ ?_)⟩
    · rw[List.map_id]
      exact fin34 hcl (op:=2) (k:=k) (p:=p) (nm:=nm) (es:=l) (l:=l) (f:=.val .nilFunc) (Z:=[i64 0,i64 0,st (B []),.val (.slice none 0 0),i64 0]) rfl (G:=G) h3 h6 h7 (x:=.slc (Ex.cL l) l.length)
    all_goals simp
  · simp -implicitDefEqProofs[i34,Ex.v,Ex.c,hd',h2]
    refine⟨rfl,LI.cong (H':=H++⟨[i64 op,i64 k,st (B nm),.slc (Ex.cL l) l.length,i64 p],24,0,true⟩::⟨[.val .nilFunc],65,0,true⟩::⟨[i64 0,i64 0,st (B []),.val (.slice none 0 0),i64 0],24,0,true⟩::⟨Ex.cL [],24,0,true⟩::[]) (by simp[Ex.cL]) (loop34 (g:=id) (by omega) hll.1 rfl rfl rfl rfl (fun e he L=>hIH e he _) (fun env G h3 h6 h7 => ?_) l.length 0 [] [] _ (by omega) rfl (by simp) ?_ ?_ ?_ ?_ ?_ ?_ ?_ ?_)⟩
    · rw[List.map_id]
      exact fin34 hcl (op:=op) (k:=k) (p:=p) (nm:=nm) (es:=l) (l:=l) (f:=.val .nilFunc) (Z:=[i64 0,i64 0,st (B []),.val (.slice none 0 0),i64 0]) rfl (G:=G) h3 h6 h7 (x:=.slc (Ex.cL l) l.length)
    all_goals simp
theorem ok34nL:∀ (l:List Ex) (d:Nat),d+Ex.hgtL l≤100000->Ex.lim2L l->∀ e∈l,∀ H,Ok Tryz.prog 34 [e.v,i64 d,.val .nilFunc] H (.ret e.v) H
 | [],d,hd,hll,e,he,_=>by simp at he
 | x::r,d,hd,hll,e,he,H=>by
  rw[Ex.hgtL]at hd
  by_cases h:e=x
  · rw[h]; exact ok34n x d (by omega) hll.1 H
  · exact ok34nL r d (by omega) hll.2 e (by simpa[h]using he) H
end
theorem lit_hgt (n p:Int):(litE n p).hgt≤2:=by unfold litE; split<;>simp[Ex.hgt,Ex.hgtL]
theorem lit_lim (n p:Int):(litE n p).lim2:=by unfold litE; split<;>simp[Ex.lim2,Ex.lim2L]
mutual
theorem ok34p {s:List UInt8} {n:Int} (hn : -1000000000000≤n∧n≤1000000000000):∀ (e:Ex) (d:Nat),d+e.hgt+2≤100000->e.lim2->∀ {H:List AO} {a b:Nat},H[a]? = some ⟨[st (B s)],9,0,true⟩->H[b]? = some ⟨[i64 n],3,0,true⟩->Ok Tryz.prog 34 [e.v,i64 d,.fn (.func 35) [] [rp a,rp b]] H (.ret (putE s n e).v) H
 | .mk op k nm l p,d,hd,hll,H,a,b,ha,hb=>by
  have hgt:=Ex.hgt.eq_1 op k nm l p
  rw[hgt]at hd
  have hIH:=ok34pL (s:=s) hn l (d+1) (by omega) hll.2
  have hd':¬ (d:Int)=100000:=by omega
  have h1:=getElem?_lt ha
  have h2:=getElem?_lt hb
  refine ok_fn hm Tryz.func34 c34 (by simp[Ex.und_v,rp,h1,h2]) fun hcl => ?_
  rw[putE]
  by_cases h2:op=2
  · subst h2
    rw[if_pos rfl]
    have h35:∀ G,Ok Tryz.prog 35 [(Ex.mk 2 k nm l p).v,rp a,rp b] (H++G) (.ret (if nm=s then litE n p else Ex.mk 2 k nm l p).v) (H++G):=fun G=>ok35 (H:=H++G) (e:=.mk 2 k nm l p) hn (get_app_l ha G) (get_app_l hb G)
    have hye:((if nm=s then litE n p else Ex.mk 2 k nm l p).hgt:Nat)+d≤100000:=by
     split
     · have:=lit_hgt n p; omega
     · rw[hgt]; omega
    have hyl:(if nm=s then litE n p else Ex.mk 2 k nm l p).lim2:=by
     split
     · exact lit_lim n p
     · exact hll
    generalize (if nm=s then litE n p else Ex.mk 2 k nm l p)=y at h35 hye hyl ⊢
    obtain⟨op',k',nm',l',p'⟩:=y
    rw[Ex.hgt]at hye
    have hIH':=ok34nL l' (d+1) (by omega) hyl.2
    simp only[Ex.v,Ex.c,rp]at h35
    simp -implicitDefEqProofs[i34,Ex.v,Ex.c,hd',rp]
    refine call_of (a:=[]) (b:=[.ptr (.own a 0 0 0 0) 0,.ptr (.own b 0 0 0 0) 0]) (h35 _) ?_
    simp -implicitDefEqProofs
    refine⟨rfl,LI.cong (H':=H++⟨[i64 op',i64 k',st (B nm'),.slc (Ex.cL l') l'.length,i64 p'],24,0,true⟩::⟨[.val .nilFunc],65,0,true⟩::⟨[i64 0,i64 0,st (B []),.val (.slice none 0 0),i64 0],24,0,true⟩::⟨Ex.cL [],24,0,true⟩::[]) (by simp[Ex.cL,rp]) (loop34 (g:=id) (by omega) hyl.1 rfl rfl rfl rfl (fun e he L=>hIH' e he _) (fun env G h3 h6 h7 => ?_) l'.length 0 [] [] _ (by omega) rfl (by simp) ?_ ?_ ?_ ?_ ?_ ?_ ?_ ?_)⟩
    · rw[List.map_id]
      exact fin34 hcl (op:=op') (k:=k') (p:=p') (nm:=nm') (es:=l') (l:=l') (f:=.val .nilFunc) (Z:=[i64 0,i64 0,st (B []),.val (.slice none 0 0),i64 0]) rfl (G:=G) h3 h6 h7 (x:=.slc (Ex.cL l') l'.length)
    all_goals simp
  · rw[if_neg h2]
    rw[putL_map]
    simp -implicitDefEqProofs[i34,Ex.v,Ex.c,hd',h2,rp]
    refine LI.cong (H':=H++⟨[i64 op,i64 k,st (B nm),.slc (Ex.cL l) l.length,i64 p],24,0,true⟩::⟨[.fn (.func 35) [] [rp a,rp b]],65,0,true⟩::⟨[i64 0,i64 0,st (B []),.val (.slice none 0 0),i64 0],24,0,true⟩::⟨Ex.cL [],24,0,true⟩::[]) (by simp[Ex.cL,rp]) (loop34 (g:=putE s n) (by omega) hll.1 rfl rfl rfl rfl (fun e he L=>hIH e he (get_app_l ha L) (get_app_l hb L)) (fun env G h3 h6 h7 => ?_) l.length 0 [] [] _ (by omega) rfl (by simp) ?_ ?_ ?_ ?_ ?_ ?_ ?_ ?_)
    · have:=fin34 hcl (op:=op) (k:=k) (p:=p) (nm:=nm) (es:=l.map (putE s n)) (l:=l) (f:=.fn (.func 35) [] [rp a,rp b]) (Z:=[i64 0,i64 0,st (B []),.val (.slice none 0 0),i64 0]) rfl (G:=G) h3 h6 (by simpa using h7) (x:=.slc (Ex.cL l) l.length)
      simp only[List.length_map]at this
      simp only[Ex.v,Ex.c,List.length_map]at this
      exact this
    all_goals simp[rp]
theorem ok34pL {s:List UInt8} {n:Int} (hn : -1000000000000≤n∧n≤1000000000000):∀ (l:List Ex) (d:Nat),d+Ex.hgtL l+2≤100000->Ex.lim2L l->∀ e∈l,∀ {H:List AO} {a b:Nat},H[a]? = some ⟨[st (B s)],9,0,true⟩->H[b]? = some ⟨[i64 n],3,0,true⟩->Ok Tryz.prog 34 [e.v,i64 d,.fn (.func 35) [] [rp a,rp b]] H (.ret (putE s n e).v) H
 | [],d,hd,hll,e,he,_,_,_,_,_=>by simp at he
 | x::r,d,hd,hll,e,he,H,a,b,ha,hb=>by
  rw[Ex.hgtL]at hd
  by_cases h:e=x
  · rw[h]; exact ok34p hn x d (by omega) hll.1 ha hb
  · exact ok34pL hn r d (by omega) hll.2 e (by simpa[h]using he) ha hb
end
end
end Go.Proofs.YtcejichidnlicaaGreatDoor
namespace Go.Proofs.YtcejichidnlicaaGreatDoor
open Go.Ab
variable [FrEnv]
mutual
def Ex.cp:Ex->List SV
 | .mk op n nm l p=>[i64 op,i64 n,st (B nm),.pn (.slc (Ex.cpL l) l.length),i64 p]
def Ex.cpL:List Ex->List SV
 | []=>[]
 | e::r=>e.cp++Ex.cpL r
end
def Ex.vp (e:Ex):SV:=.agg e.cp
@[simp] theorem Ex.cp_len (e:Ex):e.cp.length=5:=by cases e; rfl
theorem exP_app:∀ a b:List Ex,Ex.cpL (a++b)=Ex.cpL a++Ex.cpL b
 | [],b=>by simp[Ex.cpL]
 | x::a,b=>by simp only[List.cons_append,Ex.cpL,exP_app a b,List.append_assoc]
theorem exP_len:∀ a:List Ex,(Ex.cpL a).length=a.length*5
 | []=>rfl
 | x::a=>by simp only[Ex.cpL,List.length_append,Ex.cp_len,exP_len a,List.length_cons]; omega
@[simp] theorem cpL_nil:Ex.cpL []=[]:=by rw[Ex.cpL]
@[simp] theorem cells_cp (e:Ex):cellsOk e.cp:=by
 intro x hx
 obtain⟨op,n,nm,l,p⟩:=e
 simp only[Ex.cp,List.mem_cons,List.not_mem_nil,or_false]at hx
 rcases hx with rfl | rfl | rfl | rfl | rfl<;>rfl
@[simp] theorem take5_cp (e:Ex):List.take 5 e.cp=e.cp:=List.take_of_length_le (by rw[Ex.cp_len]; exact Nat.le_refl _)
theorem take_cpL (l:List Ex):List.take (l.length*5) (Ex.cpL l)=Ex.cpL l:=List.take_of_length_le (by rw[exP_len]; exact Nat.le_refl _)
mutual
theorem Ex.undp (n:Nat):∀ e:Ex,SV.underL n e.cp=true
 | .mk op k nm l p=>by simp[Ex.cp,SV.underL,SV.under,Ex.undpL n l]
theorem Ex.undpL (n:Nat):∀ l:List Ex,SV.underL n (Ex.cpL l)=true
 | []=>rfl
 | e::r=>by rw[Ex.cpL,SV.underL_append,Ex.undp n e,Ex.undpL n r]; rfl
end
theorem Ex.und_vp (n:Nat) (e:Ex):e.vp.under n=true:=by simp[Ex.vp,SV.under,Ex.undp]
@[simp] theorem exP_fzm (n:Nat) (ks:List Nat) (L:List AO) (d:Nat) (l:List Ex):(Ex.cpL l).map (SV.fz n ks L (d+1))=Ex.cpL l:=map_fz_under _ _ _ _ (Ex.undpL _ l)
theorem SV.und_own {n k off len sz ver:Nat} (h:n≤k):¬ (SV.own k off len sz ver).under n=true:=by simp[SV.under]; exact h
theorem fz_pn {n:Nat} {ks:List Nat} {L:List AO} {d:Nat} {x:SV} (h:¬ x.under n=true):SV.fz n ks L (d+1) (.pn x)=(SV.fz n ks L d x).pnW:=by
 rw[SV.fz]
 rw[if_neg (by simpa[SV.under]using h)]
mutual
theorem vp_leL:∀ e:Ex,leL e.cp e.c
 | .mk op k nm l p=>by
  rw[Ex.cp,Ex.c]
  exact leL.cons (SV.le.refl _) (leL.cons (SV.le.refl _) (leL.cons (SV.le.refl _) (leL.cons (fun S v h=>le_slc (vpL_leL l) _ S v (pn_le S v h)) (leL.refl _))))
theorem vpL_leL:∀ l:List Ex,leL (Ex.cpL l) (Ex.cL l)
 | []=>leL.nil
 | e::r=>by rw[Ex.cpL,Ex.cL]; exact leL.app (vp_leL e) (vpL_leL r)
end
theorem vp_le (e:Ex):SV.le e.vp e.v:=le_agg (vp_leL e)
section
variable {H:List AO}
theorem loop34q {l:List Ex} {d:Nat} (hd:d<100000) (hl:l.length<2000000) {f:SV} (hf:f.isCell=true) (hfv:f.vd=true) (hfu:f.ug=f) (hff:f.flat=[f]) {g:Ex->Ex} (hIH:∀ e∈l,∀ L,Ok Tryz.prog 34 [e.v,i64 ((d+1:Nat):Int),f] (H++L) (.ret (g e).vp) (H++L)) {c:List SV} {Z:AO} {N:Nat} {K:XE->Env->List AO->Prop}
 (hexit:∀ env G,env.get 3=.ptr (.own H.length 0 0 0 0) 0->env.get 6=.ptr (.own (H.length+2) 0 0 0 0) 0->env.get 7=.own (H.length+3) 0 l.length 5 l.length->K (.exit 0) env (H++⟨c,24,0,true⟩::⟨[f],65,0,true⟩::Z::⟨Ex.cpL (l.map g),24,l.length,true⟩::G)) :
 ∀ (m i:Nat) (es:List Ex) (G:List AO) (env:Env),i+m=l.length->es.length=i->es++(l.drop i).map g=l.map g->env.get 1=i64 d->env.get 3=.ptr (.own H.length 0 0 0 0) 0->env.get 5=.ptr (.own (H.length+1) 0 0 0 0) 0->env.get 6=.ptr (.own (H.length+2) 0 0 0 0) 0->env.get 7=.own (H.length+3) 0 es.length 5 es.length →
  env.get 25=.slc (Ex.cL l) l.length->env.get 26=i64 l.length->env.get 27=i64 i->LI Tryz.prog N drawB l34_0 env (H++⟨c,24,0,true⟩::⟨[f],65,0,true⟩::Z::⟨Ex.cpL es,24,es.length,true⟩::G) K:=by
 intro m
 induction m with
 | zero =>
  intro i es G env hi he hq h1 h3 h5 h6 h7 h25 h26 h27
  refine li_go hm l34_0.eq_1 ?_
  have e:i=l.length:=by omega
  subst e
  rw[List.drop_length,List.map_nil,List.append_nil]at hq
  subst hq
  simp -implicitDefEqProofs[h1,h3,h5,h6,h7,h25,h26,h27,he]
  have:=hexit
  simp only[List.length_map]at he
  refine hexit _ G ?_ ?_ ?_<;>simp
 | succ m ih =>
  intro i es G env hi he hq h1 h3 h5 h6 h7 h25 h26 h27
  refine li_go hm l34_0.eq_1 ?_
  have hlt:i<l.length:=by omega
  have hlt':(i:Int)<l.length:=by omega
  have hg:=exL_get hlt
  have hcl':=exL_len l
  have w1:IntKind.i64.wrap ((d:Int)+1)=((d+1:Nat):Int):=wrap_succ (by omega)
  rw[List.drop_eq_getElem_cons hlt,List.map_cons]at hq
  have hIH':=hIH l[i] (List.getElem_mem hlt)
  simp -implicitDefEqProofs[h1,h3,h5,h6,h7,h25,h26,h27,hlt,hlt',hg,hcl',hfv,hfu]
  refine⟨by omega,call_go (by rw[w1]; exact hIH' _) ?_⟩
  simp -implicitDefEqProofs[h1,h3,h5,h6,h7,h25,h26,h27,Ex.v,Ex.vp]
  have hel:(es++[g l[i]]).length=es.length+1:=by simp
  refine⟨by omega,by omega,exP_len es,LI.cong ?_ (ih (i+1) (es++[g l[i]]) (G++[⟨l[i].c,24,0,true⟩,⟨(g l[i]).cp,24,0,true⟩]) _ (by omega) (by omega) (by rw[List.append_assoc]; exact hq) ?_ ?_ ?_ ?_ ?_ ?_ ?_ ?_)⟩
  · simp[exP_app,Ex.cpL]
  all_goals simp[h1,h3,h5,h6,h25,h26,wrap_suc (show i<9223372036854775807 by omega)]
theorem fin34q (hcl:closed H) {op k p:Int} {nm:List UInt8} {l es:List Ex} {env:Env} {f:SV} {Z:List SV} (hZ:Z.length=5) {G:List AO} (h3:env.get 3=.ptr (.own H.length 0 0 0 0) 0) (h6:env.get 6=.ptr (.own (H.length+2) 0 0 0 0) 0) (h7:env.get 7=.own (H.length+3) 0 es.length 5 es.length) {x:SV} :
 X Tryz.prog Tryz.f34.ntmps drawB (.seq (.reg [⟨some 40,none,.p (.mov (.t 7))⟩,⟨some 41,none,.p (.fa 3 (.t 3))⟩,⟨none,none,.e (.st 1 (.t 41) (.t 40))⟩]) (.seq (.reg [⟨some 42,none,.p (.ldn 5 (.t 3))⟩,⟨none,none,.e (.st 5 (.t 6) (.t 42))⟩]) .ret)) env
  (H++⟨[i64 op,i64 k,st (B nm),x,i64 p],24,0,true⟩::⟨[f],65,0,true⟩::⟨Z,24,0,true⟩::⟨Ex.cpL es,24,es.length,true⟩::G) (Ab.Fin H.length r34 (.ret (Ex.mk op k nm es p).vp) H):=by
 have hZ2:List.drop 5 Z=[]:=List.drop_of_length_le (by omega)
 simp -implicitDefEqProofs[r34,h3,h6,h7,hZ,hZ2]
 refine Cv.pre (r1:=.agg [i64 op,i64 k,st (B nm),.pn (.own (H.length+3) 0 es.length 5 es.length),i64 p]) (le_agg (leL.cons (SV.le.refl _) (leL.cons (SV.le.refl _) (leL.cons (SV.le.refl _) (leL.cons le_pn (leL.refl _)))))) ?_
 refine cv_fz 4 hcl rfl ?_
 rw[fz_agg]
 have hu:¬ (SV.own (H.length+3) 0 es.length 5 es.length).under H.length=true:=SV.und_own (by omega)
 simp only[List.map_cons,List.map_nil,fz_i64,fz_st,fz_pn hu,Ex.vp,Ex.cp]
 simp[exP_len,take_cpL]
mutual
theorem ok34nq:∀ (e:Ex) (d:Nat),d+e.hgt≤100000->e.lim2->∀ H,Ok Tryz.prog 34 [e.v,i64 d,.val .nilFunc] H (.ret e.vp) H
 | .mk op k nm l p,d,hd,hll,H=>by
  rw[Ex.hgt]at hd
  have hIH:=ok34nLq l (d+1) (by omega) hll.2
  have hd':¬ (d:Int)=100000:=by omega
  refine ok_fn hm Tryz.func34 c34 (by simp[Ex.und_v]) fun hcl => ?_
  by_cases h2:op=2
  · subst h2
    simp -implicitDefEqProofs[i34,Ex.v,Ex.c,hd']
    refine⟨rfl,LI.cong (H':=H++⟨[i64 2,i64 k,st (B nm),.slc (Ex.cL l) l.length,i64 p],24,0,true⟩::⟨[.val .nilFunc],65,0,true⟩::⟨[i64 0,i64 0,st (B []),.val (.slice none 0 0),i64 0],24,0,true⟩::⟨Ex.cpL [],24,0,true⟩::[]) (by simp[Ex.cpL]) (loop34q (g:=id) (by omega) hll.1 rfl rfl rfl rfl (fun e he L=>hIH e he _) (fun env G h3 h6 h7 => ?_) l.length 0 [] [] _ (by omega) rfl (by simp) ?_ ?_ ?_ ?_ ?_ ?_ ?_ ?_)⟩
    · rw[List.map_id]
      exact fin34q hcl (op:=2) (k:=k) (p:=p) (nm:=nm) (es:=l) (l:=l) (f:=.val .nilFunc) (Z:=[i64 0,i64 0,st (B []),.val (.slice none 0 0),i64 0]) rfl (G:=G) h3 h6 h7 (x:=.slc (Ex.cL l) l.length)
    all_goals simp
  · simp -implicitDefEqProofs[i34,Ex.v,Ex.c,hd',h2]
    refine⟨rfl,LI.cong (H':=H++⟨[i64 op,i64 k,st (B nm),.slc (Ex.cL l) l.length,i64 p],24,0,true⟩::⟨[.val .nilFunc],65,0,true⟩::⟨[i64 0,i64 0,st (B []),.val (.slice none 0 0),i64 0],24,0,true⟩::⟨Ex.cpL [],24,0,true⟩::[]) (by simp[Ex.cpL]) (loop34q (g:=id) (by omega) hll.1 rfl rfl rfl rfl (fun e he L=>hIH e he _) (fun env G h3 h6 h7 => ?_) l.length 0 [] [] _ (by omega) rfl (by simp) ?_ ?_ ?_ ?_ ?_ ?_ ?_ ?_)⟩
    · rw[List.map_id]
      exact fin34q hcl (op:=op) (k:=k) (p:=p) (nm:=nm) (es:=l) (l:=l) (f:=.val .nilFunc) (Z:=[i64 0,i64 0,st (B []),.val (.slice none 0 0),i64 0]) rfl (G:=G) h3 h6 h7 (x:=.slc (Ex.cL l) l.length)
    all_goals simp
theorem ok34nLq:∀ (l:List Ex) (d:Nat),d+Ex.hgtL l≤100000->Ex.lim2L l->∀ e∈l,∀ H,Ok Tryz.prog 34 [e.v,i64 d,.val .nilFunc] H (.ret e.vp) H
 | [],d,hd,hll,e,he,_=>by simp at he
 | x::r,d,hd,hll,e,he,H=>by
  rw[Ex.hgtL]at hd
  by_cases h:e=x
  · rw[h]; exact ok34nq x d (by omega) hll.1 H
  · exact ok34nLq r d (by omega) hll.2 e (by simpa[h]using he) H
end
mutual
theorem ok34pq {s:List UInt8} {n:Int} (hn : -1000000000000≤n∧n≤1000000000000):∀ (e:Ex) (d:Nat),d+e.hgt+2≤100000->e.lim2->∀ {H:List AO} {a b:Nat},H[a]? = some ⟨[st (B s)],9,0,true⟩->H[b]? = some ⟨[i64 n],3,0,true⟩->Ok Tryz.prog 34 [e.v,i64 d,.fn (.func 35) [] [rp a,rp b]] H (.ret (putE s n e).vp) H
 | .mk op k nm l p,d,hd,hll,H,a,b,ha,hb=>by
  have hgt:=Ex.hgt.eq_1 op k nm l p
  rw[hgt]at hd
  have hIH:=ok34pLq (s:=s) hn l (d+1) (by omega) hll.2
  have hd':¬ (d:Int)=100000:=by omega
  have h1:=getElem?_lt ha
  have h2:=getElem?_lt hb
  refine ok_fn hm Tryz.func34 c34 (by simp[Ex.und_v,rp,h1,h2]) fun hcl => ?_
  rw[putE]
  by_cases h2:op=2
  · subst h2
    rw[if_pos rfl]
    have h35:∀ G,Ok Tryz.prog 35 [(Ex.mk 2 k nm l p).v,rp a,rp b] (H++G) (.ret (if nm=s then litE n p else Ex.mk 2 k nm l p).v) (H++G):=fun G=>ok35 (H:=H++G) (e:=.mk 2 k nm l p) hn (get_app_l ha G) (get_app_l hb G)
    have hye:((if nm=s then litE n p else Ex.mk 2 k nm l p).hgt:Nat)+d≤100000:=by
     split
     · have:=lit_hgt n p; omega
     · rw[hgt]; omega
    have hyl:(if nm=s then litE n p else Ex.mk 2 k nm l p).lim2:=by
     split
     · exact lit_lim n p
     · exact hll
    generalize (if nm=s then litE n p else Ex.mk 2 k nm l p)=y at h35 hye hyl ⊢
    obtain⟨op',k',nm',l',p'⟩:=y
    rw[Ex.hgt]at hye
    have hIH':=ok34nLq l' (d+1) (by omega) hyl.2
    simp only[Ex.v,Ex.c,rp]at h35
    simp -implicitDefEqProofs[i34,Ex.v,Ex.c,hd',rp]
    refine call_of (a:=[]) (b:=[.ptr (.own a 0 0 0 0) 0,.ptr (.own b 0 0 0 0) 0]) (h35 _) ?_
    simp -implicitDefEqProofs
    refine⟨rfl,LI.cong (H':=H++⟨[i64 op',i64 k',st (B nm'),.slc (Ex.cL l') l'.length,i64 p'],24,0,true⟩::⟨[.val .nilFunc],65,0,true⟩::⟨[i64 0,i64 0,st (B []),.val (.slice none 0 0),i64 0],24,0,true⟩::⟨Ex.cpL [],24,0,true⟩::[]) (by simp[Ex.cL,rp]) (loop34q (g:=id) (by omega) hyl.1 rfl rfl rfl rfl (fun e he L=>hIH' e he _) (fun env G h3 h6 h7 => ?_) l'.length 0 [] [] _ (by omega) rfl (by simp) ?_ ?_ ?_ ?_ ?_ ?_ ?_ ?_)⟩
    · rw[List.map_id]
      exact fin34q hcl (op:=op') (k:=k') (p:=p') (nm:=nm') (es:=l') (l:=l') (f:=.val .nilFunc) (Z:=[i64 0,i64 0,st (B []),.val (.slice none 0 0),i64 0]) rfl (G:=G) h3 h6 h7 (x:=.slc (Ex.cL l') l'.length)
    all_goals simp
  · rw[if_neg h2]
    rw[putL_map]
    simp -implicitDefEqProofs[i34,Ex.v,Ex.c,hd',h2,rp]
    refine LI.cong (H':=H++⟨[i64 op,i64 k,st (B nm),.slc (Ex.cL l) l.length,i64 p],24,0,true⟩::⟨[.fn (.func 35) [] [rp a,rp b]],65,0,true⟩::⟨[i64 0,i64 0,st (B []),.val (.slice none 0 0),i64 0],24,0,true⟩::⟨Ex.cpL [],24,0,true⟩::[]) (by simp[Ex.cL,rp]) (loop34q (g:=putE s n) (by omega) hll.1 rfl rfl rfl rfl (fun e he L=>hIH e he (get_app_l ha L) (get_app_l hb L)) (fun env G h3 h6 h7 => ?_) l.length 0 [] [] _ (by omega) rfl (by simp) ?_ ?_ ?_ ?_ ?_ ?_ ?_ ?_)
    · have:=fin34q hcl (op:=op) (k:=k) (p:=p) (nm:=nm) (es:=l.map (putE s n)) (l:=l) (f:=.fn (.func 35) [] [rp a,rp b]) (Z:=[i64 0,i64 0,st (B []),.val (.slice none 0 0),i64 0]) rfl (G:=G) h3 h6 (by simpa using h7) (x:=.slc (Ex.cL l) l.length)
      simp only[List.length_map]at this
      exact this
    all_goals simp[rp]
theorem ok34pLq {s:List UInt8} {n:Int} (hn : -1000000000000≤n∧n≤1000000000000):∀ (l:List Ex) (d:Nat),d+Ex.hgtL l+2≤100000->Ex.lim2L l->∀ e∈l,∀ {H:List AO} {a b:Nat},H[a]? = some ⟨[st (B s)],9,0,true⟩->H[b]? = some ⟨[i64 n],3,0,true⟩->Ok Tryz.prog 34 [e.v,i64 d,.fn (.func 35) [] [rp a,rp b]] H (.ret (putE s n e).vp) H
 | [],d,hd,hll,e,he,_,_,_,_,_=>by simp at he
 | x::r,d,hd,hll,e,he,H,a,b,ha,hb=>by
  rw[Ex.hgtL]at hd
  by_cases h:e=x
  · rw[h]; exact ok34pq hn x d (by omega) hll.1 ha hb
  · exact ok34pLq hn r d (by omega) hll.2 e (by simpa[h]using he) ha hb
end
end
end Go.Proofs.YtcejichidnlicaaGreatDoor
namespace Go.Proofs.YtcejichidnlicaaGreatDoor
open Go.Ab
variable [FrEnv]
def keysS (out:List (List UInt8)):List Value:=out.map fun s=>.string (B s)
def valsS (out:List (List UInt8)):List SV:=out.map fun _=>bl true
abbrev FS (e:Ex) (out:List (List UInt8)) (kp:List Value) (vp:List SV) (stk:List Ex) (vo vt:Nat) (G:List AO):List AO :=
 ⟨e.c,24,0,true⟩::⟨wds out,9,vo,true⟩::⟨.mk (keysS out)::valsS out,66,0,false⟩::⟨.mk kp::vp,67,0,false⟩::⟨Ex.cL stk,24,vt,true⟩::G
structure FE (n:Nat) (out:List (List UInt8)) (stk:List Ex) (vo vt:Nat) (env:Env):Prop where
 s3:env.get 3=.own (n+1) 0 out.length 1 vo
 s4:env.get 4=.mp (n+2) 0
 s5:env.get 5=.mp (n+3) 0
 s6:env.get 6=.own (n+4) 0 stk.length 5 vt
theorem lkm_keys (s:List UInt8):∀ out:List (List UInt8),lkm (.string (B s)) (keysS out) (valsS out)=if s∈out then some (bl true)else none
 | []=>rfl
 | x::r=>by
  have ih:=lkm_keys s r
  show(if vkeq (.string (B s)) (.string (B x))=true then some (bl true)else lkm (.string (B s)) (keysS r) (valsS r))=_
  have hv:vkeq (.string (B s)) (.string (B x))=decide (s=x):=by simp[vkeq,B]
  rw[hv,ih]
  by_cases h:s=x
  · simp[h]
  · simp[h]
theorem mset_keys (s:List UInt8):∀ out:List (List UInt8),s∉out->msetK (.string (B s)) (keysS out)=keysS (out++[s])∧msetV (.string (B s)) (bl true) (keysS out) (valsS out)=valsS (out++[s])
 | [],_=>⟨rfl,rfl⟩
 | x::r,h=>by
  obtain⟨h1,h2⟩:=mset_keys s r (fun hr=>h (by simp[hr]))
  have hv:vkeq (.string (B s)) (.string (B x))=false:=by
   have:¬ s=x:=fun e=>h (by simp[e])
   simp[vkeq,B,this]
  have k1:keysS (x::r)=.string (B x)::keysS r:=rfl
  have k2:valsS (x::r)=bl true::valsS r:=rfl
  refine⟨?_,?_⟩
  · rw[k1,msetK,hv,if_neg (by decide),h1]; rfl
  · rw[k1,k2,msetV,hv,if_neg (by decide),h2]; rfl
theorem mo2 (H:List AO) (a b:AO) (ks:List Value) (vs:List SV) (T:TypeId) (G:List AO):SV.mapOf (H++a::b::⟨.mk ks::vs,T,0,false⟩::G) (.mp (H.length+2) 0)=some (ks,vs):=by
 simp[SV.mapOf]
theorem mo3 (H:List AO) (a b c:AO) (ks:List Value) (vs:List SV) (T:TypeId) (G:List AO):SV.mapOf (H++a::b::c::⟨.mk ks::vs,T,0,false⟩::G) (.mp (H.length+3) 0)=some (ks,vs):=by
 simp[SV.mapOf]
theorem keys_is (out:List (List UInt8)):∀ x∈keysS out,KK.s.is x=true:=by
 intro x hx
 obtain⟨s,_,rfl⟩:=List.mem_map.1 hx
 rfl
theorem lkm_none {k:Value}:∀ {ks:List Value} {vs:List SV},(∀ x∈ks,vkeq k x=false)->ks.length=vs.length->lkm k ks vs=none∧(msetK k ks=ks++[k]∧∀ v,msetV k v ks vs=vs++[v])
 | [],[],_,_=>⟨rfl,rfl,fun _=>rfl⟩
 | x::ks,y::vs,h,hl=>by
  have hx:=h x (by simp)
  obtain⟨h1,h2,h3⟩:=lkm_none (k:=k) (ks:=ks) (vs:=vs) (fun z hz=>h z (by simp[hz])) (by simpa using hl)
  exact⟨by rw[lkm,hx,if_neg (by decide),h1],by rw[msetK,hx,if_neg (by decide),h2]; rfl,fun v=>by rw[msetV,hx,if_neg (by decide),h3]; rfl⟩
theorem add0 (a:Addr):a.add 0=a:=if_pos rfl
end Go.Proofs.YtcejichidnlicaaGreatDoor
namespace Go.Proofs.YtcejichidnlicaaGreatDoor
open Go.Ab
variable [FrEnv]
abbrev FSp (e:Ex) (out:List (List UInt8)) (kp:List Value) (vp:List SV) (stk:List Ex) (vo vt:Nat) (G:List AO):List AO :=
 ⟨e.cp,24,0,true⟩::⟨wds out,9,vo,true⟩::⟨.mk (keysS out)::valsS out,66,0,false⟩::⟨.mk kp::vp,67,0,false⟩::⟨Ex.cpL stk,24,vt,true⟩::G
theorem exP_rws:∀ l:List Ex,Ex.cpL l=rws Ex.cp l
 | []=>by rw[Ex.cpL]; rfl
 | e::r=>by rw[Ex.cpL,exP_rws r]; rfl
theorem exP_get {l:List Ex} {i:Nat} (h:i<l.length):((Ex.cpL l).drop (i*5)).take 5=l[i].cp:=by
 rw[exP_rws,rws_at Ex.cp_len h,List.take_left' (by simp)]
theorem mset_int (k:Value) (n:Int):∀ (kp:List Value) (ms:List Int),kp.length=ms.length->∃ ms':List Int,msetV k (i64 n) kp (ms.map i64)=ms'.map i64∧(msetK k kp).length=ms'.length∧∀ v∈msetK k kp,v=k∨v∈kp
 | [],[],_=>⟨[n],rfl,rfl,fun v hv=>by simp[msetK]at hv; exact .inl hv⟩
 | x::kp,m::ms,h=>by
  obtain⟨ms',h1,h2,h3⟩:=mset_int k n kp ms (by simpa using h)
  by_cases hx:vkeq k x=true
  · exact⟨n::ms,by simp[msetV,hx],by simp[msetK,hx]; simpa using h,fun v hv=>by simp[msetK,hx]at hv; exact .inr (by simpa using hv)⟩
  · refine⟨m::ms',by simp[msetV,hx,h1],by simp[msetK,hx,h2],fun v hv => ?_⟩
    rw[msetK,if_neg hx]at hv
    rcases List.mem_cons.1 hv with rfl | hv
    · exact .inr (by simp)
    · exact(h3 v hv).imp id fun h=>by simp[h]
theorem lkm_int (k:Value):∀ (kp:List Value) (ms:List Int),kp.length=ms.length->lkm k kp (ms.map i64)=none∨∃ m:Int,lkm k kp (ms.map i64)=some (i64 m)
 | [],[],_=>.inl rfl
 | x::kp,m::ms,h=>by
  by_cases hx:vkeq k x=true
  · exact .inr ⟨m,by simp[lkm,hx]⟩
  · have:=lkm_int k kp ms (by simpa using h)
    simpa[lkm,hx]using this
section
variable [KnEnv] {H:List AO} {e0:Ex} {out:List (List UInt8)} {kp:List Value} {vp:List SV} {N:Nat} {K:XE->Env->List AO->Prop}
theorem free_endP {vo vt:Nat} {G:List AO} {env:Env} (he:FE H.length out [] vo vt env) (h:∀ env,env.get 3=.own (H.length+1) 0 out.length 1 vo->K (.exit 0) env (H++FSp e0 out kp vp [] vo vt G)) :
 LI Tryz.prog N drawB l20_0 env (H++FSp e0 out kp vp [] vo vt G) K:=by
 obtain⟨h3,h4,h5,h6⟩:=he
 refine li_go hm l20_0.eq_1 ?_
 simp -implicitDefEqProofs[h3,h4,h5,h6]
 exact h _ (by simp)
theorem free_nameP {out':List (List UInt8)} {rest:List Ex} {k p:Int} {nm:List UInt8} {l:List Ex} {vo vt:Nat} {G:List AO} {env:Env} (he:FE H.length out (rest++[.mk 2 k nm l p]) vo vt env) (hr:rest.length<2000000) (ho:out.length<2000000) (hout:out'=if nm∈out then out else out++[nm])
 (h:∀ vo' G' env,FE H.length out' rest vo' vt env->LI Tryz.prog N drawB l20_0 env (H++FSp e0 out' kp vp rest vo' vt G') K) :
 LI Tryz.prog N drawB l20_0 env (H++FSp e0 out kp vp (rest++[.mk 2 k nm l p]) vo vt G) K:=by
 obtain⟨h3,h4,h5,h6⟩:=he
 have hl:(rest++[Ex.mk 2 k nm l p]).length=rest.length+1:=by simp
 rw[hl]at h6
 have hc:=exP_len (rest++[Ex.mk 2 k nm l p])
 rw[hl]at hc
 have hg:=exP_get (l:=rest++[Ex.mk 2 k nm l p]) (i:=rest.length) (by simp)
 have hg2:(rest++[Ex.mk 2 k nm l p])[rest.length]'(by simp)=Ex.mk 2 k nm l p:=by simp
 rw[hg2,Ex.cp]at hg
 have w1:IntKind.i64.wrap (rest.length:Int)=(rest.length:Int):=wrap_nat (by omega)
 have hlk:=lkm_keys nm out
 refine li_go hm l20_0.eq_1 ?_
 simp only[FSp]
 generalize hcc:Ex.cpL (rest++[Ex.mk 2 k nm l p])=cc at hc hg ⊢
 have hki:=keys_is out
 have hms:=mset_keys nm out
 have htk:List.take (rest.length*5) cc=Ex.cpL rest:=by
  rw[←hcc,exP_app,List.take_left' (exP_len rest)]
 have hal:((keysS out,valsS out):List Value×List SV).1.all KK.s.is=true:=List.all_eq_true.2 hki
 by_cases hin:nm∈out
 · rw[if_pos hin]at hlk hout
   subst hout
   simp -implicitDefEqProofs[h3,h4,h5,h6,hc,hg,w1,mo2,hki,hlk]
   refine⟨by omega,by omega,hki,?_⟩
   refine LI.tell (Tell.trunc (j:=H.length+4) (o:=⟨cc,24,vt,true⟩) (by simp) rfl (rest.length*5)) (LI.cong (H':=H++FSp e0 out' kp vp rest vo vt (G++[⟨[i64 2,i64 k,st (B nm),.pn (.slc (Ex.cpL l) l.length),i64 p],24,0,true⟩])) (by simp[FSp,htk]) (h vo _ _ ⟨?_,?_,?_,?_⟩))
   all_goals simp
 · rw[if_neg hin]at hlk hout
   subst hout
   simp -implicitDefEqProofs[h3,h4,h5,h6,hc,hg,w1,mo2,hki,hlk]
   refine⟨by omega,by omega,hki,?_⟩
   refine s_mup_go (mo2 ..) rfl rfl hal ?_
   simp -implicitDefEqProofs[SV.key,(hms hin).1,(hms hin).2,h3]
   refine⟨by omega,by omega,?_⟩
   refine LI.tell (Tell.trunc (j:=H.length+4) (o:=⟨cc,24,vt,true⟩) (by simp) rfl (rest.length*5)) (LI.cong (H':=H++FSp e0 (out++[nm]) kp vp rest (vo+1) vt (G++[⟨[i64 2,i64 k,st (B nm),.pn (.slc (Ex.cpL l) l.length),i64 p],24,0,true⟩,⟨[st (B nm)],9,0,true⟩])) (by simp[FSp,htk,wds]) (h (vo+1) _ _ ⟨?_,?_,?_,?_⟩))
   all_goals simp[h4,h5]
theorem free_inP {l:List Ex} {op k p:Int} {nm:List UInt8} {rest:List Ex} {vo:Nat} {X:AO} (hX:X=⟨[i64 op,i64 k,st (B nm),.pn (.slc (Ex.cpL l) l.length),i64 p],24,0,true⟩) (hl:l.length<2000000) (hrl:rest.length<2000000) {q:Nat} {A:List AO} (hq:q=A.length+5)
 (h:∀ vt G env,FE H.length out (rest++l.reverse) vo vt env->K (.exit 2) env (H++FSp e0 out kp vp (rest++l.reverse) vo vt (A++X::G))) :
 ∀ (m:Nat) (vt:Nat) (G:List AO) (env:Env),m≤l.length->FE H.length out (rest++(l.drop m).reverse) vo vt env->env.get 7=.ptr (.own (H.length+q) 0 0 0 0) 0->env.get 8=i64 ((m:Int)-1) →
  LI Tryz.prog N drawB l20_1 env (H++FSp e0 out kp vp (rest++(l.drop m).reverse) vo vt (A++X::G)) K:=by
 intro m
 induction m with
 | zero =>
  intro vt G env _ he h7 h8
  obtain⟨h3,h4,h5,h6⟩:=he
  refine li_go hm l20_1.eq_1 ?_
  rw[List.drop_zero]at *
  simp -implicitDefEqProofs[h3,h4,h5,h6,h7,h8]
  exact h vt G _ ⟨by simp[h3],by simp[h4],by simp[h5],by simp[h6]⟩
 | succ m ih =>
  intro vt G env hml he h7 h8
  obtain⟨h3,h4,h5,h6⟩:=he
  refine li_go hm l20_1.eq_1 ?_
  have hlt:m<l.length:=by omega
  have hlt':(m:Int)<l.length:=by omega
  have hg:=exP_get hlt
  have hcl':=exP_len l
  have hcr:=exP_len (rest++(l.drop (m+1)).reverse)
  have w0:IntKind.i64.wrap (m:Int)=m:=wrap_nat (by omega)
  have w1:IntKind.i64.wrap ((m:Int)-1)=(m:Int)-1:=wrap_id (by omega) (by omega)
  have hd:rest++(l.drop m).reverse=(rest++(l.drop (m+1)).reverse)++[l[m]]:=by
   rw[List.drop_eq_getElem_cons hlt,List.reverse_cons,List.append_assoc]
  simp only[FSp]
  generalize hcc:Ex.cpL (rest++(l.drop (m+1)).reverse)=cc at hcr ⊢
  generalize hrr:rest++(l.drop (m+1)).reverse=rr at *
  have hrrl:rr.length<4000000:=by rw[←hrr]; simp; omega
  subst hX hq
  have h8':env.get 8=i64 m:=by rw[h8]; congr 1; omega
  simp -implicitDefEqProofs[h3,h4,h5,h6,h7,h8',hlt,hlt',hg,hcl',hcr,w0,w1]
  have hrl2:(rest++(l.drop m).reverse).length=rr.length+1:=by rw[hd]; simp
  have hcd:Ex.cpL (rest++(l.drop m).reverse)=cc++l[m].cp:=by rw[hd,exP_app,hcc]; simp[Ex.cpL]
  refine⟨by omega,by omega,by omega,LI.cong ?_ (ih (vt+1) (G++[⟨l[m].cp,24,0,true⟩]) _ (by omega) ⟨?_,?_,?_,?_⟩ ?_ ?_)⟩
  · simp[FSp,hcd]
  all_goals simp[hrl2]
theorem free_op1P {a:Addr} {cap:Nat} {l:List Ex} {op k p:Int} {nm:List UInt8} {rest:List Ex} {vo vt:Nat} {G:List AO} {env:Env} (hk:(SV.slc (Ex.cpL l) l.length,Value.slice (some a) l.length cap)∈KnEnv.kn) (hkq:(SV.pn (.slc (Ex.cpL l) l.length),Value.slice (some a) l.length cap)∈KnEnv.kn) (hop:op≠2) (hl0:l≠[]) (hl:l.length<2000000) (hrl:rest.length<2000000)
 {ms:List Int} (hvp:vp=ms.map i64) (hkl:kp.length=ms.length) (hkn:∀ v∈kp,knowB v) (he:FE H.length out (rest++[.mk op k nm l p]) vo vt env)
 (hs:∀ G env,FE H.length out rest vo vt env->LI Tryz.prog N drawB l20_0 env (H++FSp e0 out kp vp rest vo vt G) K)
 (h:∀ kp' (ms':List Int) vt G env,kp'.length=ms'.length->(∀ v∈kp',knowB v)->FE H.length out (rest++l.reverse) vo vt env->LI Tryz.prog N drawB l20_0 env (H++FSp e0 out kp' (ms'.map i64) (rest++l.reverse) vo vt G) K) :
 LI Tryz.prog N drawB l20_0 env (H++⟨e0.cp,24,0,true⟩::⟨wds out,9,vo,true⟩::⟨.mk (keysS out)::valsS out,66,0,false⟩::⟨.mk kp::vp,67,0,false⟩::⟨Ex.cpL rest++[i64 op,i64 k,st (B nm),.val (.slice (some a) l.length cap),i64 p],24,vt,true⟩::G) K:=by
 obtain⟨h3,h4,h5,h6⟩:=he
 have hlr:(rest++[Ex.mk op k nm l p]).length=rest.length+1:=by simp
 rw[hlr]at h6
 have hc:=exP_len rest
 have hg:List.take 5 (List.drop (rest.length*5) (Ex.cpL rest++[i64 op,i64 k,st (B nm),.val (.slice (some a) l.length cap),i64 p]))=[i64 op,i64 k,st (B nm),.val (.slice (some a) l.length cap),i64 p]:=by
  rw[List.drop_left' hc]; rfl
 have w1:IntKind.i64.wrap (rest.length:Int)=(rest.length:Int):=wrap_nat (by omega)
 have hl00:l.length≠0:=fun h=>hl0 (List.eq_nil_of_length_eq_zero h)
 have hknow:knowB (.pointer (some a)):=.inr ⟨a,Ex.cpL l,l.length,cap,rfl,hkq,hl00⟩
 have hkall:∀ v∈Value.pointer (some a)::kp,(KK.p 24).knows v:=by
  intro v hv
  rcases List.mem_cons.1 hv with rfl | hv
  · exact hknow
  · exact hkn v hv
 have hkis:∀ v∈kp,(KK.p 24).is v=true:=by
  intro v hv
  rcases hkn v hv with ⟨_,b,_,_,_,rfl,_⟩ | ⟨b,_,_,_,rfl,_⟩<;>rfl
 have hl0':¬ (l.length:Int)=0:=by omega
 have hpos:(0:Int)<l.length:=by omega
 have hcc2:(Ex.cpL rest++[i64 op,i64 k,st (B nm),.val (.slice (some a) l.length cap),i64 p]).length=rest.length*5+5:=by simp[hc]
 have htk:List.take (rest.length*5) (Ex.cpL rest++[i64 op,i64 k,st (B nm),.val (.slice (some a) l.length cap),i64 p])=Ex.cpL rest:=List.take_left' hc
 have wl:IntKind.i64.wrap ((l.length:Int)-1)=(l.length:Int)-1:=wrap_id (by omega) (by omega)
 have hal:((kp,vp):List Value×List SV).1.all (KK.p 24).is=true:=List.all_eq_true.2 hkis
 obtain⟨ms',hm1,hm2,hm3⟩:=mset_int (.pointer (some a)) l.length kp ms hkl
 have hkn':∀ v∈msetK (.pointer (some a)) kp,knowB v:=fun v hv=>by
  rcases hm3 v hv with rfl | hv
  · exact hknow
  · exact hkn v hv
 rw[←hvp]at hm1
 have hlk:=lkm_int (.pointer (some a)) kp ms hkl
 rw[←hvp]at hlk
 have hX:(⟨[i64 op,i64 k,st (B nm),.pn (.slc (Ex.cpL l) l.length),i64 p],24,0,true⟩:AO)=⟨[i64 op,i64 k,st (B nm),.pn (.slc (Ex.cpL l) l.length),i64 p],24,0,true⟩:=rfl
 have fin:∀ (K':XE->Env->List AO->Prop) (_:∀ vt' G' env,FE H.length out (rest++l.reverse) vo vt' env->K' (.exit 2) env (H++FSp e0 out (msetK (.pointer (some a)) kp) (ms'.map i64) (rest++l.reverse) vo vt' G')) (cc:List SV),List.take (rest.length*5) cc=Ex.cpL rest->∀ env2,env2.get 3=.own (H.length+1) 0 out.length 1 vo->env2.get 4=.mp (H.length+2) 0->env2.get 5=.mp (H.length+3) 0->env2.get 6=.own (H.length+4) 0 rest.length 5 vt->env2.get 7=.ptr (.own (H.length+(G.length+5)) 0 0 0 0) 0->env2.get 8=i64 ((l.length:Int)-1) →
  LI Tryz.prog N drawB l20_1 env2 (H++⟨e0.cp,24,0,true⟩::⟨wds out,9,vo,true⟩::⟨.mk (keysS out)::valsS out,66,0,false⟩::⟨.mk (msetK (.pointer (some a)) kp)::ms'.map i64,67,0,false⟩::⟨cc,24,vt,true⟩::(G++[⟨[i64 op,i64 k,st (B nm),.val (.slice (some a) l.length cap),i64 p],24,0,true⟩])) K':=by
  intro K' hK' cc hcc env2 q3 q4 q5 q6 q7 q8
  refine LI.tell (Tell.knownP (j:=H.length+(G.length+5)) (p:=3) (o:=⟨[i64 op,i64 k,st (B nm),.val (.slice (some a) l.length cap),i64 p],24,0,true⟩) (by simp) rfl rfl (s:=.pn (.slc (Ex.cpL l) l.length)) rfl hkq) ?_
  refine LI.tell (Tell.trunc (j:=H.length+4) (o:=⟨cc,24,vt,true⟩) (by simp) rfl (rest.length*5)) ?_
  refine LI.cong (H':=H++FSp e0 out (msetK (.pointer (some a)) kp) (ms'.map i64) (rest++(l.drop l.length).reverse) vo vt (G++⟨[i64 op,i64 k,st (B nm),.pn (.slc (Ex.cpL l) l.length),i64 p],24,0,true⟩::[])) (by simp[FSp,hcc]) ?_
  refine free_inP hX hl hrl (q:=G.length+5) (A:=G) rfl (fun vt G' env he => ?_) l.length vt [] _ (Nat.le_refl _) ⟨q3,q4,q5,by simpa using q6⟩ q7 q8
  exact hK' vt _ env he
 refine li_go hm l20_0.eq_1 ?_
 generalize hccc:Ex.cpL rest++[i64 op,i64 k,st (B nm),.val (.slice (some a) l.length cap),i64 p]=cc at hg hcc2 htk ⊢
 rcases hlk with hlk | ⟨m,hlk⟩
 · simp -implicitDefEqProofs[h3,h4,h5,h6,hc,hg,hcc2,w1,hop,hl0',hl0,hpos,mo3,add0,hlk,SV.isK,SV.key,SV.isP,SV.pval]
   refine⟨by omega,rfl,by omega,⟨hkis,hkall _ (.head _),fun v hv=>hkall v (.tail _ hv)⟩,by omega,?_⟩
   refine s_mup_go (x:=(kp,vp)) (mo3 ..) rfl rfl hal ?_ (by simpa[SV.key,SV.pval]using hkall)
   simp -implicitDefEqProofs[SV.key,SV.pval,hm1]
   refine fin _ (fun vt' G' env he => ?_) cc htk _ ?_ ?_ ?_ ?_ ?_ ?_
   · simp -implicitDefEqProofs
     exact h _ ms' vt' G' env hm2 hkn' he
   all_goals simp[h3,h4,h5,wl]
 · by_cases hlm:(l.length:Int)≤m
   · simp -implicitDefEqProofs[h3,h4,h5,h6,hc,hg,hcc2,w1,hop,hl0',hl0,hpos,mo3,add0,hlk,hlm,SV.isK,SV.key,SV.isP,SV.pval]
     refine⟨by omega,rfl,by omega,⟨hkis,hkall _ (.head _),fun v hv=>hkall v (.tail _ hv)⟩,?_⟩
     refine LI.tell (Tell.knownP (j:=H.length+(G.length+5)) (p:=3) (o:=⟨[i64 op,i64 k,st (B nm),.val (.slice (some a) l.length cap),i64 p],24,0,true⟩) (by simp) rfl rfl (s:=.pn (.slc (Ex.cpL l) l.length)) rfl hkq) ?_
     refine LI.tell (Tell.trunc (j:=H.length+4) (o:=⟨cc,24,vt,true⟩) (by simp) rfl (rest.length*5)) (LI.cong (H':=H++FSp e0 out kp vp rest vo vt (G++[⟨[i64 op,i64 k,st (B nm),.pn (.slc (Ex.cpL l) l.length),i64 p],24,0,true⟩])) (by simp[FSp,htk]) (hs _ _ ⟨?_,?_,?_,?_⟩))
     all_goals simp
   · simp -implicitDefEqProofs[h3,h4,h5,h6,hc,hg,hcc2,w1,hop,hl0',hl0,hpos,mo3,add0,hlk,hlm,SV.isK,SV.key,SV.isP,SV.pval]
     refine⟨by omega,rfl,by omega,⟨hkis,hkall _ (.head _),fun v hv=>hkall v (.tail _ hv)⟩,by omega,?_⟩
     refine s_mup_go (x:=(kp,vp)) (mo3 ..) rfl rfl hal ?_ (by simpa[SV.key,SV.pval]using hkall)
     simp -implicitDefEqProofs[SV.key,SV.pval,hm1]
     refine fin _ (fun vt' G' env he => ?_) cc htk _ ?_ ?_ ?_ ?_ ?_ ?_
     · simp -implicitDefEqProofs
       exact h _ ms' vt' G' env hm2 hkn' he
     all_goals simp[h3,h4,h5,wl]
end
end Go.Proofs.YtcejichidnlicaaGreatDoor
namespace Go.Proofs.YtcejichidnlicaaGreatDoor
open Go.Ab
variable [FrEnv]
section
variable [KnEnv]
theorem LI.learn0 {P:Program} {N:Nat} {D:Array Oper->List Nat->List Ins->Bool} {i:IC} {env:Env} {H:List AO} {K:XE->Env->List AO->Prop} (j p:Nat) {o:AO}
 (ho:H[j]? = some o) (hl:o.live=true) (hp:o.cells[p]? = some (.pn (.slc [] 0)))
 (h:∀ (a:Option Addr) (cap:Nat),LI P N D i env (H.set j ⟨o.cells.set p (.val (.slice a 0 cap)),o.ty,o.ver,true⟩) K) :
 LI P N D i env H K:=by
 intro c hc db S a hH hS he hN hd
 subst hH
 have h1:=hS.live j o ho hl
 cases hρ:S.ρ j with
 | none=>rw[hρ]at h1; rw[h1]at hp; simp at hp
 | some b =>
  rw[hρ]at h1
  obtain⟨us,rest,h2,h3⟩:=h1
  obtain⟨u,hu1,hup⟩:=h3.get hp
  have hu2:VR S (.slc [] 0) u:=by cases hup with | pn x v h hr hp=>exact h
  obtain⟨ad,cap,rfl⟩:∃ ad cap,u=.slice ad 0 cap:=by
   cases hu2 with
   | nilslc=>exact⟨none,0,rfl⟩
   | slc cells len a cap us hc hl hi h=>exact⟨some a,cap,rfl⟩
  have hS':Sim ⟨S.ρ,S.H.set j ⟨o.cells.set p (.val (.slice ad 0 cap)),o.ty,o.ver,true⟩,S.w⟩:=by
   refine sim_retellR hS ho hl ?_ ?_
   · intro s hs
     rcases List.mem_or_eq_of_mem_set hs with hs | rfl
     · exact(hS.bel j o ho s hs).2 hl
     · rfl
   · intro us' hl' hv'
     have e:us'.length=us.length:=hv'.1.trans h3.1.symm
     have:us'=us:=by
      unfold St.lies at hl'
      rw[hρ]at hl'
      obtain⟨rest',h4⟩:=hl'
      rw[h2]at h4
      have h5:us++rest=us'++rest':=by simpa using h4
      exact(List.append_inj h5 e.symm).1.symm
     subst this
     refine⟨us'.length,?_⟩
     rw[List.take_length]
     refine⟨by simpa using h3.1,fun k s v hs hv => ?_⟩
     by_cases hk:k=p
     · subst hk
       rw[hu1]at hv; cases hv
       rw[List.getElem?_set_self (getElem?_lt hp)]at hs; cases hs
       exact .val _
     · rw[List.getElem?_set_ne (by omega)]at hs
       exact h3.2 k s v hs hv
  have hx:=ext_retell ho hl (o.cells.set p (.val (.slice ad 0 cap)))
  have hd':=hd.ext hS hx
  refine loopIn_mono (h ad cap c hc db ⟨S.ρ,S.H.set j ⟨o.cells.set p (.val (.slice ad 0 cap)),o.ty,o.ver,true⟩,S.w⟩ a rfl hS' (he.ext hx) hN hd') fun e a' w hp => ?_
  obtain⟨x,env',ρ,H',k1,k2,k3,k4,k5,k6,k7⟩:=hp
  refine⟨x,env',ρ,H',k1,hx.trans (k2.mono (hx.len (Nat.le_refl _))),k3,k4,k5,k6,k7⟩
end
mutual
def Ex.cnt:Ex->Nat
 | .mk _ _ _ l _=>1+Ex.cntL l
def Ex.cntL:List Ex->Nat
 | []=>0
 | e::r=>e.cnt+Ex.cntL r
end
mutual
def Ex.nms:Ex->List (List UInt8)
 | .mk op _ nm l _=>if op=2 then [nm]else Ex.nmsL l
def Ex.nmsL:List Ex->List (List UInt8)
 | []=>[]
 | e::r=>e.nms++Ex.nmsL r
end
theorem cntL_app:∀ a b:List Ex,Ex.cntL (a++b)=Ex.cntL a+Ex.cntL b
 | [],b=>by simp[Ex.cntL]
 | x::a,b=>by simp only[List.cons_append,Ex.cntL,cntL_app a b]; omega
theorem cntL_rev:∀ a:List Ex,Ex.cntL a.reverse=Ex.cntL a
 | []=>rfl
 | x::a=>by rw[List.reverse_cons,cntL_app,cntL_rev a]; simp only[Ex.cntL]; omega
theorem cnt_pos:∀ e:Ex,1≤e.cnt
 | .mk _ _ _ _ _=>by rw[Ex.cnt]; omega
theorem cntL_len:∀ a:List Ex,a.length≤Ex.cntL a
 | []=>Nat.le_refl _
 | x::a=>by have:=cntL_len a; have:=cnt_pos x; simp only[Ex.cntL,List.length_cons]; omega
theorem mem_nmsL {s:List UInt8}:∀ {l:List Ex},s∈Ex.nmsL l↔∃ e∈l,s∈e.nms
 | []=>by simp[Ex.nmsL]
 | x::l=>by rw[Ex.nmsL,List.mem_append,mem_nmsL (l:=l)]; simp
section
variable {H:List AO} {e0:Ex} {out:List (List UInt8)} {N:Nat}
theorem free_nil1P [KnEnv] {kp:List Value} {vp:List SV} {K:XE->Env->List AO->Prop} {op k p:Int} {nm:List UInt8} {rest:List Ex} {vo vt:Nat} {G:List AO} {env:Env} (hop:op≠2) (hrl:rest.length<2000000) {ad:Option Addr} {cap:Nat}
 (he:FE H.length out (rest++[.mk op k nm [] p]) vo vt env)
 (hs:∀ G env,FE H.length out rest vo vt env->LI Tryz.prog N drawB l20_0 env (H++FSp e0 out kp vp rest vo vt G) K) :
 LI Tryz.prog N drawB l20_0 env (H++⟨e0.cp,24,0,true⟩::⟨wds out,9,vo,true⟩::⟨.mk (keysS out)::valsS out,66,0,false⟩::⟨.mk kp::vp,67,0,false⟩::⟨Ex.cpL rest++[i64 op,i64 k,st (B nm),.val (.slice ad 0 cap),i64 p],24,vt,true⟩::G) K:=by
 obtain⟨h3,h4,h5,h6⟩:=he
 have hlr:(rest++[Ex.mk op k nm [] p]).length=rest.length+1:=by simp
 rw[hlr]at h6
 have hc:=exP_len rest
 have hg:List.take 5 (List.drop (rest.length*5) (Ex.cpL rest++[i64 op,i64 k,st (B nm),.val (.slice ad 0 cap),i64 p]))=[i64 op,i64 k,st (B nm),.val (.slice ad 0 cap),i64 p]:=by
  rw[List.drop_left' hc]; rfl
 have w1:IntKind.i64.wrap (rest.length:Int)=(rest.length:Int):=wrap_nat (by omega)
 have hcc2:(Ex.cpL rest++[i64 op,i64 k,st (B nm),.val (.slice ad 0 cap),i64 p]).length=rest.length*5+5:=by simp[hc]
 have htk:List.take (rest.length*5) (Ex.cpL rest++[i64 op,i64 k,st (B nm),.val (.slice ad 0 cap),i64 p])=Ex.cpL rest:=List.take_left' hc
 refine li_go hm l20_0.eq_1 ?_
 generalize hccc:Ex.cpL rest++[i64 op,i64 k,st (B nm),.val (.slice ad 0 cap),i64 p]=cc at hg hcc2 htk ⊢
 simp -implicitDefEqProofs[h3,h4,h5,h6,hc,hg,hcc2,w1,hop]
 refine⟨by omega,by cases ad<;>rfl,?_⟩
 refine LI.tell (Tell.trunc (j:=H.length+4) (o:=⟨cc,24,vt,true⟩) (by simp) rfl (rest.length*5)) (LI.cong (H':=H++FSp e0 out kp vp rest vo vt (G++[⟨[i64 op,i64 k,st (B nm),.val (.slice ad 0 cap),i64 p],24,0,true⟩])) (by simp[FSp,htk]) (hs _ _ ⟨?_,?_,?_,?_⟩))
 all_goals simp
theorem free_nilP [KnEnv] {kp:List Value} {vp:List SV} {K:XE->Env->List AO->Prop} {op k p:Int} {nm:List UInt8} {rest:List Ex} {vo vt:Nat} {G:List AO} {env:Env} (hop:op≠2) (hrl:rest.length<2000000)
 (he:FE H.length out (rest++[.mk op k nm [] p]) vo vt env)
 (hs:∀ G env,FE H.length out rest vo vt env->LI Tryz.prog N drawB l20_0 env (H++FSp e0 out kp vp rest vo vt G) K) :
 LI Tryz.prog N drawB l20_0 env (H++FSp e0 out kp vp (rest++[.mk op k nm [] p]) vo vt G) K:=by
 have hcl:Ex.cpL (rest++[Ex.mk op k nm [] p])=Ex.cpL rest++[i64 op,i64 k,st (B nm),.pn (.slc [] 0),i64 p]:=by rw[exP_app]; simp[Ex.cpL,Ex.cp]
 have hc:=exP_len rest
 refine LI.learn0 (H.length+4) (rest.length*5+3) (o:=⟨Ex.cpL (rest++[Ex.mk op k nm [] p]),24,vt,true⟩) (by simp[FSp]) rfl ?_ fun a cap => ?_
 · rw[hcl,List.getElem?_append_right (by omega)]
   have e:rest.length*5+3-(Ex.cpL rest).length=3:=by omega
   rw[e]; rfl
 · have hset:(Ex.cpL (rest++[Ex.mk op k nm [] p])).set (rest.length*5+3) (.val (.slice a 0 cap))=Ex.cpL rest++[i64 op,i64 k,st (B nm),.val (.slice a 0 cap),i64 p]:=by
    rw[hcl,List.set_append_right _ _ (by omega)]
    have e:rest.length*5+3-(Ex.cpL rest).length=3:=by omega
    rw[e]; rfl
   refine LI.cong ?_ (free_nil1P (G:=G) hop hrl (ad:=a) (cap:=cap) he hs)
   rw[hset]
   simp[FSp]
theorem know_cons2 (kn:KnEnv) {x y:SV×Value} {v:Value} (h:knowB v) : @knowB _ ⟨x::y::KnEnv.kn⟩ v:=by
 rcases h with ⟨hf,a,cells,len,cap,h1,h2,h3⟩ | ⟨a,cells,len,cap,h1,h2,h3⟩
 · exact .inl ⟨hf,a,cells,len,cap,h1,List.mem_cons_of_mem _ (List.mem_cons_of_mem _ h2),h3⟩
 · exact .inr ⟨a,cells,len,cap,h1,List.mem_cons_of_mem _ (List.mem_cons_of_mem _ h2),h3⟩
theorem free_opP [kn:KnEnv] {kp:List Value} {ms:List Int} {K:XE->Env->List AO->Prop} {l:List Ex} {op k p:Int} {nm:List UInt8} {rest:List Ex} {vo vt:Nat} {G:List AO} {env:Env} (hop:op≠2) (hl0:l≠[]) (hl:l.length<2000000) (hrl:rest.length<2000000)
 (hkl:kp.length=ms.length) (hkn:∀ v∈kp,knowB v) (he:FE H.length out (rest++[.mk op k nm l p]) vo vt env)
 (hs:∀ (k':KnEnv) G env,(∀ v∈kp,@knowB _ k' v)->FE H.length out rest vo vt env -> @LI _ _ k' Tryz.prog N drawB l20_0 env (H++FSp e0 out kp (ms.map i64) rest vo vt G) K)
 (h:∀ (k':KnEnv) kp' (ms':List Int) vt G env,kp'.length=ms'.length->(∀ v∈kp',@knowB _ k' v)->FE H.length out (rest++l.reverse) vo vt env -> @LI _ _ k' Tryz.prog N drawB l20_0 env (H++FSp e0 out kp' (ms'.map i64) (rest++l.reverse) vo vt G) K) :
 LI Tryz.prog N drawB l20_0 env (H++FSp e0 out kp (ms.map i64) (rest++[.mk op k nm l p]) vo vt G) K:=by
 have hcl:Ex.cpL (rest++[Ex.mk op k nm l p])=Ex.cpL rest++[i64 op,i64 k,st (B nm),.pn (.slc (Ex.cpL l) l.length),i64 p]:=by rw[exP_app]; simp[Ex.cpL,Ex.cp]
 have hne:Ex.cpL l≠[]:=by
  cases l with
  | nil=>exact absurd rfl hl0
  | cons x r=>obtain⟨a,b,c,d,e⟩:=x; simp[Ex.cpL,Ex.cp]
 have hc:=exP_len rest
 refine LI.learnP (H.length+4) (rest.length*5+3) (o:=⟨Ex.cpL (rest++[Ex.mk op k nm l p]),24,vt,true⟩) (cells:=Ex.cpL l) (len:=l.length) (by simp[FSp]) rfl ?_ hne (Ex.undpL 0 l) fun a cap => ?_
 · rw[hcl,List.getElem?_append_right (by omega)]
   have e:rest.length*5+3-(Ex.cpL rest).length=3:=by omega
   rw[e]; rfl
 · let k':KnEnv:=⟨(.slc (Ex.cpL l) l.length,.slice (some a) l.length cap)::(.pn (.slc (Ex.cpL l) l.length),.slice (some a) l.length cap)::KnEnv.kn⟩
   have hset:(Ex.cpL (rest++[Ex.mk op k nm l p])).set (rest.length*5+3) (.val (.slice (some a) l.length cap))=Ex.cpL rest++[i64 op,i64 k,st (B nm),.val (.slice (some a) l.length cap),i64 p]:=by
    rw[hcl,List.set_append_right _ _ (by omega)]
    have e:rest.length*5+3-(Ex.cpL rest).length=3:=by omega
    rw[e]; rfl
   have hkn':∀ v∈kp,@knowB _ k' v:=fun v hv => @know_cons2 _ kn (.slc (Ex.cpL l) l.length,.slice (some a) l.length cap) (.pn (.slc (Ex.cpL l) l.length),.slice (some a) l.length cap) v (hkn v hv)
   refine @LI.cong _ _ k' _ _ _ _ _ _ _ _ ?_ (@free_op1P _ k' H e0 out kp (ms.map i64) N K a cap l op k p nm rest vo vt G env (List.mem_cons_self ..) (List.mem_cons_of_mem _ (List.mem_cons_self ..)) hop hl0 hl hrl ms rfl hkl hkn' he (fun G env he=>hs k' G env hkn' he) (h k'))
   rw[hset]
   simp[FSp]
theorem free_allP {K:XE->Env->List AO->Prop} {W:List (List UInt8)} (hK:∀ out kp vp vo vt G env,out.length<2000000->(∀ s∈out,s∈W)->env.get 3=.own (H.length+1) 0 out.length 1 vo->K (.exit 0) env (H++FSp e0 out kp vp [] vo vt G)) :
 ∀ (n:Nat) (kn:KnEnv) (stk:List Ex) (out:List (List UInt8)) (kp:List Value) (ms:List Int) (vo vt:Nat) (G:List AO) (env:Env),Ex.cntL stk≤n->out.length+n<2000000->(∀ s∈out,s∈W)->(∀ s∈Ex.nmsL stk,s∈W)->kp.length=ms.length->(∀ v∈kp,@knowB _ kn v)->FE H.length out stk vo vt env →
  @LI _ _ kn Tryz.prog N drawB l20_0 env (H++FSp e0 out kp (ms.map i64) stk vo vt G) K:=by
 intro n
 induction n with
 | zero =>
  intro kn stk out kp ms vo vt G env hn _ ho _ _ _ he
  have:=cntL_len stk
  obtain rfl:stk=[]:=List.eq_nil_of_length_eq_zero (by omega)
  exact free_endP he fun env h=>hK _ _ _ _ _ _ _ (by omega) ho h
 | succ n ih =>
  intro kn stk out kp ms vo vt G env hn hb ho hw hkl hkn he
  rcases List.eq_nil_or_concat stk with rfl | ⟨rest,e,rfl⟩
  · exact free_endP he fun env h=>hK _ _ _ _ _ _ _ (by omega) ho h
  rw[List.concat_eq_append]at *
  obtain⟨op,k,nm,l,p⟩:=e
  rw[cntL_app]at hn
  have hc1:Ex.cntL [Ex.mk op k nm l p]=1+Ex.cntL l:=by simp[Ex.cntL,Ex.cnt]
  rw[hc1]at hn
  have hrl:=cntL_len rest
  have hll:=cntL_len l
  have hwr:∀ s∈Ex.nmsL rest,s∈W:=fun s hs=>hw s (by
   obtain⟨e,he,h⟩:=mem_nmsL.1 hs
   exact mem_nmsL.2 ⟨e,by simp[he],h⟩)
  by_cases hop:op=2
  · subst hop
    have hnm:nm∈W:=hw nm (mem_nmsL.2 ⟨.mk 2 k nm l p,by simp,by simp[Ex.nms]⟩)
    refine free_nameP (out':=if nm∈out then out else out++[nm]) he (by omega) (by omega) rfl fun vo' G' env' he'=>ih kn _ _ _ _ _ _ _ _ (by omega) ?_ ?_ hwr hkl hkn he'
    · split
      · omega
      · simp; omega
    · intro s hs
      split at hs
      · exact ho s hs
      · rcases List.mem_append.1 hs with hs | hs
        · exact ho s hs
        · rw[List.mem_singleton.1 hs]; exact hnm
  · by_cases hl0:l=[]
    · subst hl0
      exact free_nilP hop (by omega) he fun G env he=>ih kn _ _ _ _ _ _ _ _ (by omega) (by omega) ho hwr hkl hkn he
    · refine free_opP hop hl0 (by omega) (by omega) hkl hkn he (fun k' G env hkn he=>ih k' _ _ _ _ _ _ _ _ (by omega) (by omega) ho hwr hkl hkn he) (fun k' kp' ms' vt G env hkl hkn he=>ih k' _ _ _ _ _ _ _ _ (by rw[cntL_app,cntL_rev]; omega) (by omega) ho ?_ hkl hkn he)
      intro s hs
      obtain⟨e,he,h⟩:=mem_nmsL.1 hs
      rcases List.mem_append.1 he with he | he
      · exact hwr s (mem_nmsL.2 ⟨e,he,h⟩)
      · refine hw s (mem_nmsL.2 ⟨.mk op k nm l p,by simp,?_⟩)
        rw[Ex.nms,if_neg hop]
        exact mem_nmsL.2 ⟨e,by simpa using he,h⟩
theorem ok20p {e:Ex} (hc:e.cnt<1000000):OkP Tryz.prog 20 [e.vp] H fun o H'=>H'=H∧∃ out:List (List UInt8),out.length<2000000∧(∀ s∈out,s∈e.nms)∧o=.ret (.slc (wds out) out.length):=by
 refine okP_fn hm Tryz.func20 c20 (by simp[Ex.und_vp]) fun hcl => ?_
 have hcl1:Ex.cntL [e]=e.cnt:=by simp[Ex.cntL]
 have hnl1:∀ s,s∈Ex.nmsL [e]↔s∈e.nms:=by simp[Ex.nmsL]
 have hcp:Ex.cpL [e]=e.cp:=by simp[Ex.cpL]
 have key:∀ {K:XE->Env->List AO->Prop} (env:Env),FE H.length [] [e] 0 0 env->(∀ out kp vp vo vt G env,out.length<2000000->(∀ s∈out,s∈e.nms)->env.get 3=.own (H.length+1) 0 out.length 1 vo->K (.exit 0) env (H++FSp e out kp vp [] vo vt G))->LI Tryz.prog Tryz.f20.ntmps drawB l20_0 env (H++FSp e [] [] [] [e] 0 0 []) K :=
  fun env he hK=>free_allP (ms:=[]) hK 1000000 _ [e] [] [] 0 0 [] env (by omega) (by simp) (by simp) (fun s hs=>(hnl1 s).1 hs) rfl (by simp) he
 obtain⟨op,k,nm,l,p⟩:=e
 simp -implicitDefEqProofs[i20,r20,Ex.vp,Ex.cp]
 refine LI.cong (H':=H++FSp (.mk op k nm l p) [] [] [] [.mk op k nm l p] 0 0 []) (by simp[FSp,Ex.cpL,Ex.cp,wds,keysS,valsS]) ?_
 refine key _ ⟨?_,?_,?_,?_⟩ (fun out kp vp vo vt G env hol ho h3 => ?_)
 · simp
 · simp
 · simp
 · simp
 · simp -implicitDefEqProofs[h3]
   have hw:∀ L,(wds out).map (SV.fz H.length [] L 2)=wds out:=fun L=>map_fz_under _ _ _ _ (by simp[SV.underL_iff,wds,SV.under])
   have ht:List.take out.length (wds out)=wds out:=List.take_of_length_le (by simp)
   refine⟨_,_,⟨rfl,out,hol,ho,rfl⟩,cv_fz 3 hcl rfl ?_⟩
   simp[FSp,hw,ht]
end
end Go.Proofs.YtcejichidnlicaaGreatDoor
namespace Go.Proofs.YtcejichidnlicaaGreatDoor
open Go.Ab
variable [FrEnv]
def vIs (r:Vr) (k n:Int):Bool:=match r with
 | .ok v=>decide (v.1=k)&&decide (v.2=n)
 | .error _=>false
def eIs (r:Vr) (w:Int):Bool:=match r with
 | .ok _=>false
 | .error x=>decide (x=w)
theorem vIs_eq {r:Vr} {k n:Int} (h:vIs r k n=true):r=.ok (k,n):=by
 unfold vIs at h
 split at h
 · simp only[Bool.and_eq_true,decide_eq_true_eq]at h
   obtain⟨rfl,rfl⟩:=h
   rfl
 · cases h
theorem eIs_eq {r:Vr} {w:Int} (h:eIs r w=true):r=.error w:=by
 unfold eIs at h
 split at h
 · cases h
 · rw[decide_eq_true_eq]at h; subst h; rfl
theorem gv_ok {H:List AO} (l:List UInt8) (k n:Int) (h:decide (l.length<4611686018427387904)&&(decide ((exprR l).1.hgt≤100000)&&vIs (evalF xyN xyV (exprR l).1) k n)=true):Ok Tryz.prog 15 [st (B l),i64 k,i64 n,i64 0] H (.ret (bl true)) H:=by
 simp only[Bool.and_eq_true,decide_eq_true_eq]at h
 exact ok15v h.1 (by simpa using h.2.1) (vIs_eq h.2.2)
theorem ge_ok {H:List AO} (l:List UInt8) (w:Int) (h:decide (l.length<4611686018427387904)&&(decide ((exprR l).1.hgt≤100000)&&eIs (evalF xyN xyV (exprR l).1) w)=true):Ok Tryz.prog 15 [st (B l),i64 0,i64 0,i64 w] H (.ret (bl true)) H:=by
 simp only[Bool.and_eq_true,decide_eq_true_eq]at h
 exact ok15e h.1 (by simpa using h.2.1) (eIs_eq h.2.2)
section
variable {H:List AO}
theorem aw1:Ok Tryz.prog 15 [st ⟨#[121,32,47,32,52]⟩,i64 1,i64 (-1),i64 0] H (.ret (bl true)) H:=gv_ok [121,32,47,32,52] 1 (-1) (by kernel_rfl)
theorem aw2:Ok Tryz.prog 15 [st ⟨#[120,32,60,32,121,32,111,114,32,120,32,61,61,32,53]⟩,i64 2,i64 1,i64 0] H (.ret (bl true)) H:=gv_ok [120,32,60,32,121,32,111,114,32,120,32,61,61,32,53] 2 1 (by kernel_rfl)
theorem aw3:Ok Tryz.prog 21 [st ⟨#[50,32,42,32,51,32,43,32,120]⟩,st ⟨#[54,32,43,32,120]⟩] H (.ret (bl true)) H:=ok21 (l:=[50,32,42,32,51,32,43,32,120]) (w:=[54,32,43,32,120]) (by kernel_rfl)
theorem ok8:Ok Tryz.prog 8 [] H (.ret (bl true)) H:=by
 refine ok_fn hm Tryz.func8 c8 (by simp) fun hcl => ?_
 simp -implicitDefEqProofs[i8,r8]
 refine call_go aw1 ?_
 simp -implicitDefEqProofs
 refine callq_go (fun _=>aw2) ?_
 simp -implicitDefEqProofs
 refine callq_go (fun _=>aw3) ?_
 simp -implicitDefEqProofs
 exact cv_id
end
end Go.Proofs.YtcejichidnlicaaGreatDoor
namespace Go.Proofs.YtcejichidnlicaaGreatDoor
open Go.Ab
variable [FrEnv]
mutual
theorem cntE:∀ (e:Ex) (m:Int),m≤1000->sizE e m≤m->(e.cnt:Int)≤m
 | .mk op n nm l p,m,h1,h2=>by
  unfold sizE at h2
  unfold Ex.cnt
  have:=cntLs l m 1 (by omega) h1 h2
  omega
theorem cntLs:∀ (l:List Ex) (m n:Int),1≤n->m≤1000->sizL l m n≤m->(Ex.cntL l:Int)+n≤m
 | [],m,n,_,_,h=>by
  unfold sizL at h; unfold Ex.cntL; simpa using h
 | e::r,m,n,h0,h1,h=>by
  unfold sizL at h
  by_cases hn:n≤m
  · rw[if_pos hn]at h
    have b1:=sizE_bd e (m-n)
    have b2:=sizL_bd r m (n+sizE e (m-n))
    have a2:=cntE e (m-n) (by omega) (by omega)
    have a3:=cntLs r m (n+sizE e (m-n)) (by omega) h1 h
    unfold Ex.cntL
    have a4:=sizE_cnt e (m-n) (by omega) (by omega)
    omega
  · rw[if_neg hn]at h; omega
theorem sizE_cnt:∀ (e:Ex) (m:Int),m≤1000->sizE e m≤m->sizE e m=e.cnt
 | .mk op n nm l p,m,h1,h2=>by
  unfold sizE at h2 ⊢
  unfold Ex.cnt
  rw[sizL_cnt l m 1 (by omega) h1 h2]
  omega
theorem sizL_cnt:∀ (l:List Ex) (m n:Int),1≤n->m≤1000->sizL l m n≤m->sizL l m n=n+Ex.cntL l
 | [],m,n,_,_,h=>by
  unfold sizL; unfold Ex.cntL; simp
 | e::r,m,n,h0,h1,h=>by
  unfold sizL at h ⊢
  by_cases hn:n≤m
  · rw[if_pos hn]at h ⊢
    have b1:=sizE_bd e (m-n)
    have b2:=sizL_bd r m (n+sizE e (m-n))
    have a3:=sizL_cnt r m (n+sizE e (m-n)) (by omega) h1 h
    have a4:=sizE_cnt e (m-n) (by omega) (by omega)
    unfold Ex.cntL
    omega
  · rw[if_neg hn]at h; omega
end
mutual
theorem hgt_cnt:∀ e:Ex,e.hgt≤e.cnt
 | .mk _ _ _ l _=>by have:=hgtL_cnt l; unfold Ex.hgt Ex.cnt; omega
theorem hgtL_cnt:∀ l:List Ex,Ex.hgtL l≤Ex.cntL l
 | []=>Nat.le_refl _
 | e::r=>by have:=hgt_cnt e; have:=hgtL_cnt r; unfold Ex.hgtL Ex.cntL; omega
end
mutual
theorem lim2_cnt:∀ e:Ex,e.cnt<2000000->e.lim2
 | .mk _ _ _ l _,h=>by
  unfold Ex.cnt at h
  have:=cntL_len l
  exact⟨by omega,lim2L_cnt l (by omega)⟩
theorem lim2L_cnt:∀ l:List Ex,Ex.cntL l<2000000->Ex.lim2L l
 | [],_=>trivial
 | e::r,h=>by
  unfold Ex.cntL at h
  exact⟨lim2_cnt e (by omega),lim2L_cnt r (by omega)⟩
end
theorem litE_cnt (n p:Int):(litE n p).cnt≤2:=by
 unfold litE; split<;>simp[Ex.cnt,Ex.cntL]
mutual
theorem put_cnt (s:List UInt8) (n:Int):∀ e:Ex,(putE s n e).cnt≤2*e.cnt
 | .mk op k nm l p=>by
  unfold putE
  have h1:=litE_cnt n p
  have h2:=putL_cnt s n l
  split
  · split
    · unfold Ex.cnt; unfold Ex.cnt at h1; omega
    · unfold Ex.cnt; omega
  · unfold Ex.cnt; omega
theorem putL_cnt (s:List UInt8) (n:Int):∀ l:List Ex,Ex.cntL (putL s n l)≤2*Ex.cntL l
 | []=>Nat.le_refl _
 | e::r=>by have:=put_cnt s n e; have:=putL_cnt s n r; unfold putL Ex.cntL; omega
end
theorem litE_nms (n p:Int):(litE n p).nms=[]:=by
 unfold litE; split<;>simp[Ex.nms,Ex.nmsL]
mutual
theorem put_free (s:List UInt8) (n:Int):∀ e:Ex,s∉(putE s n e).nms
 | .mk op k nm l p=>by
  unfold putE
  split
  · rename_i h
    split
    · rw[litE_nms]; simp
    · rename_i h2
      rw[Ex.nms,if_pos h]
      simpa using fun e=>h2 e.symm
  · rename_i h
    rw[Ex.nms,if_neg h]
    exact putL_free s n l
theorem putL_free (s:List UInt8) (n:Int):∀ l:List Ex,s∉Ex.nmsL (putL s n l)
 | []=>by simp[putL,Ex.nmsL]
 | e::r=>by rw[putL,Ex.nmsL,List.mem_append]; exact fun h=>h.elim (put_free s n e) (putL_free s n r)
end
mutual
def formE:Ex->Bool
 | .mk op _ _ l _=>formL l&&decide (opN op=(l.length:Int))
def formL:List Ex->Bool
 | []=>true
 | e::r=>formE e&&formL r
end
theorem numF_s {x:Int} (h:Sm x):numF x=.ok (1,x):=by
 obtain⟨h1,h2⟩:=h
 unfold numF
 rw[if_neg (by omega)]
theorem ev_lit {ns:List (List UInt8)} {vs:List Int} {n p:Int} (hn:Sm n):evE ns vs (litE n p)=.ok (1,n):=by
 obtain⟨h1,h2⟩:=hn
 unfold litE
 split
 · have a1:evE ns vs (.mk 1 (-n) [] [] p)=.ok (1,-n):=by
    rw[evE,if_neg (by simp[opN]),if_pos rfl,numF_s ⟨by omega,by omega⟩]
   rw[evE,if_neg (by simp[opN]),if_neg (by decide),if_neg (by decide),evL,evL,a1]
   have:appF 3 [.ok (1,-n)]=numF (- -n):=rfl
   rw[this,Int.neg_neg,numF_s ⟨h1,h2⟩]
 · rw[evE,if_neg (by simp[opN]),if_pos rfl,numF_s ⟨h1,h2⟩]
section
variable {ns ns':List (List UInt8)} {vs vs':List Int} {s:List UInt8} {n:Int} (hn:Sm n) (h1:lookF ns vs s=some n) (h2:∀ t,t≠s->lookF ns vs t=lookF ns' vs' t)
include hn h1 h2
mutual
theorem put_ev:∀ e:Ex,formE e=true->evE ns vs e=evE ns' vs' (putE s n e)
 | .mk op k nm l p,hf=>by
  unfold formE at hf
  rw[Bool.and_eq_true,decide_eq_true_eq]at hf
  obtain⟨hf1,hf2⟩:=hf
  have ih:=putL_ev l hf1
  by_cases hop:op=2
  · subst hop
    rw[putE,if_pos rfl,evE,if_neg (by omega),if_neg (by decide),if_pos rfl]
    by_cases hs:nm=s
    · subst hs
      rw[if_pos rfl,h1,ev_lit hn]
      exact numF_s hn
    · rw[if_neg hs,evE,if_neg (by omega),if_neg (by decide),if_pos rfl,h2 nm hs]
  · have hl:(putL s n l).length=l.length:=by rw[putL_map]; simp
    rw[putE,if_neg hop,evE,evE,if_neg hop,if_neg hop,hl,ih]
theorem putL_ev:∀ l:List Ex,formL l=true->evL ns vs l=evL ns' vs' (putL s n l)
 | [],_=>by rw[putL,evL,evL]
 | e::r,hf=>by
  unfold formL at hf
  rw[Bool.and_eq_true]at hf
  rw[putL,evL,evL,put_ev e hf.1,putL_ev r hf.2]
end
end
end Go.Proofs.YtcejichidnlicaaGreatDoor
namespace Go.Proofs.YtcejichidnlicaaGreatDoor
open Go.Ab
variable [FrEnv]
section
variable {H:List AO}
theorem loop23 {l:List Ex} (hl:l.length<4611686018427387904) (hIH:∀ e∈l,∀ (H:List AO),Ok Tryz.prog 23 [e.v] H (.ret (bl (formE e))) H) {A:AO} (hA:A.live=true∧A.ver=0∧∃ a b c d,A.cells=[a,b,c,exS l,d]) {N:Nat} {K:XE->Env->List AO->Prop}
 (hexit:formL l=true->∀ env G,env.get 1=rp H.length->K (.exit 0) env (H++A::G))
 (hret:formL l=false->∀ env G,env.get 2=bl false->K .ret env (H++A::G)) :
 ∀ (k i:Nat) (G:List AO) (env:Env),i+k=l.length->formL (l.drop i)=formL l->env.get 1=rp H.length->env.get 3=i64 i →
  LI Tryz.prog N drawB l23_0 env (H++A::G) K:=by
 obtain⟨hA1,hA2,a,b,c,d,hA3⟩:=hA
 obtain⟨cs,T,ver,lv⟩:=A
 simp only at hA1 hA2 hA3
 subst hA1 hA2 hA3
 intro k
 induction k with
 | zero =>
  intro i G env hi hr h1 h3
  refine li_go hm l23_0.eq_1 ?_
  have e:i=l.length:=by omega
  subst e
  rw[List.drop_length]at hr
  simp -implicitDefEqProofs[h1,h3,rp,exS]
  exact hexit hr.symm _ _ (by simp[h1,rp])
 | succ k ih =>
  intro i G env hi hr h1 h3
  refine li_go hm l23_0.eq_1 ?_
  have hlt:i<l.length:=by omega
  have hlt':(i:Int)<l.length:=by omega
  rw[List.drop_eq_getElem_cons hlt,formL]at hr
  have hg:=exL_get hlt
  have hlen:=exL_len l
  have h9:=hIH l[i] (List.getElem_mem hlt)
  generalize l[i]=e at hr hg h9
  simp -implicitDefEqProofs[h1,h3,rp,exS,hlt,hlt',hg,hlen]
  refine⟨by omega,call_go (h9 _) ?_⟩
  cases hf:formE e with
  | true =>
   rw[hf,Bool.true_and]at hr
   simp -implicitDefEqProofs[h1,h3,rp,exS]
   refine ih (i+1) G _ (by omega) hr ?_ ?_
   all_goals simp[h1,h3,rp,wrap_suc (show i<9223372036854775807 by omega)]
  | false =>
   rw[hf,Bool.false_and]at hr
   simp -implicitDefEqProofs[h1,h3,rp,exS]
   exact hret hr.symm _ _ (by simp)
mutual
theorem ok23:∀ (e:Ex),e.lim->∀ (H:List AO),Ok Tryz.prog 23 [e.v] H (.ret (bl (formE e))) H
 | .mk op n nm l p,he,H=>by
  have hIH:=ok23L l (by unfold Ex.lim at he; exact he.2)
  have hl:l.length<4611686018427387904:=by unfold Ex.lim at he; exact he.1
  have h38:=fun H=>ok38 (H:=H) op
  refine ok_fn hm Tryz.func23 c23 (by simp) fun hcl => ?_
  simp -implicitDefEqProofs[i23,r23,Ex.v,Ex.c]
  refine LI.cong (H':=H++⟨[i64 op,i64 n,st (B nm),exS l,i64 p],24,0,true⟩::[]) (by simp[exS]) ?_
  refine loop23 hl hIH ⟨rfl,rfl,_,_,_,_,rfl⟩ (fun hf env G h1 => ?_) (fun hf env G h2 => ?_) l.length 0 [] _ (by omega) rfl ?_ ?_
  · simp -implicitDefEqProofs[h1,rp,exS]
    refine callq_go (fun _=>h38 _) ?_
    simp -implicitDefEqProofs
    refine cv_fz 2 hcl rfl ?_
    simp[formE,hf]
  · simp -implicitDefEqProofs[h2]
    refine cv_fz 2 hcl rfl ?_
    simp[formE,hf]
  all_goals simp[rp]
theorem ok23L:∀ (l:List Ex),Ex.limL l->∀ e∈l,∀ (H:List AO),Ok Tryz.prog 23 [e.v] H (.ret (bl (formE e))) H
 | [],_,_,h=>by cases h
 | e::r,hl,x,hx=>by
  unfold Ex.limL at hl
  by_cases hh:x=e
  · rw[hh]; exact ok23 e hl.1
  · exact ok23L r hl.2 x (by simpa[hh]using hx)
end
theorem ok22b (a:Int):∃ r:Int,0≤r∧r<2000000000001∧∀ H,Ok Tryz.prog 22 [i64 a,i64 2000000000001] H (.ret (i64 r)) H:=by
 have h1:(a.tmod 2000000000001).natAbs<2000000000001:=by rw[Int.natAbs_tmod]; exact Nat.mod_lt _ (by decide)
 have hc:∀ H,Ok Tryz.prog 22 [i64 a,i64 2000000000001] H (.ret (i64 (if a.tmod 2000000000001<0 then a.tmod 2000000000001+2000000000001 else a.tmod 2000000000001))) H:=by
  intro H
  refine ok_fn hm Tryz.func22 c22 (by simp) fun hcl => ?_
  generalize hr:a.tmod 2000000000001=r at *
  by_cases h:r<0
  · have w:IntKind.i64.wrap (r+2000000000001)=r+2000000000001:=wrap_id (by omega) (by omega)
    simp -implicitDefEqProofs[i22,r22,hr,h,w]
    exact cv_id
  · simp -implicitDefEqProofs[i22,r22,hr,h]
    exact cv_id
 refine⟨_,?_,?_,hc⟩
 · split<;>omega
 · split<;>omega
theorem ok24 (a:Int):∃ r:Int,Sm r∧∀ H,Ok Tryz.prog 24 [i64 a] H (.ret (i64 r)) H:=by
 obtain⟨r,h1,h2,h3⟩:=ok22b a
 refine⟨r-1000000000000,⟨by omega,by omega⟩,fun H => ?_⟩
 have w:IntKind.i64.wrap (r-1000000000000)=r-1000000000000:=wrap_id (by omega) (by omega)
 refine ok_fn hm Tryz.func24 c24 (by simp) fun hcl => ?_
 simp -implicitDefEqProofs[i24,r24]
 refine call_go (h3 _) ?_
 simp -implicitDefEqProofs[w]
 exact cv_id
theorem ok18q {e:Ex} {s:List UInt8} {n:Int} (hn:Sm n) (hd:e.hgt+2≤100000) (hl:e.lim2):Ok Tryz.prog 18 [e.v,st (B s),i64 n] H (.ret (putE s n e).vp) H:=by
 have h34:=fun(G:List AO) (a b:Nat) ha hb=>ok34pq (s:=s) hn e 0 (by omega) hl (H:=G) (a:=a) (b:=b) ha hb
 have hu:∀ m,(putE s n e).vp.under m=true:=fun m=>Ex.und_vp m _
 generalize hy:putE s n e=y at h34 hu ⊢
 refine ok_fn hm Tryz.func18 c18 (by simp[Ex.und_v]) fun hcl => ?_
 obtain⟨op,k,nm,l,p⟩:=e
 obtain⟨op',k',nm',l',p'⟩:=y
 simp only[Ex.v,Ex.c,Ex.vp,Ex.cp,rp]at h34
 simp -implicitDefEqProofs[i18,r18,Ex.v,Ex.c,Ex.vp,Ex.cp]
 refine call_go (h34 _ (H.length+1) (H.length+2) (by simp) (by simp)) ?_
 simp -implicitDefEqProofs
 exact cv_fz 3 hcl rfl (by simp[fz_under (n:=H.length) (s:=SV.pn (.slc (Ex.cpL l') l'.length)) (by simp[SV.under,Ex.undpL])])
end
end Go.Proofs.YtcejichidnlicaaGreatDoor
namespace Go.Proofs.YtcejichidnlicaaGreatDoor
open Go.Ab
variable [FrEnv] [KnFresh]
section
variable [KnEnv] {H:List AO} {e0:Ex} {out:List (List UInt8)} {kp:List Value} {vp:List SV} {N:Nat} {K:XE->Env->List AO->Prop}
theorem free_end {vo vt:Nat} {G:List AO} {env:Env} (he:FE H.length out [] vo vt env) (h:∀ env,env.get 3=.own (H.length+1) 0 out.length 1 vo->K (.exit 0) env (H++FS e0 out kp vp [] vo vt G)) :
 LI Tryz.prog N drawB l20_0 env (H++FS e0 out kp vp [] vo vt G) K:=by
 obtain⟨h3,h4,h5,h6⟩:=he
 refine li_go hm l20_0.eq_1 ?_
 simp -implicitDefEqProofs[h3,h4,h5,h6]
 exact h _ (by simp)
theorem free_name {out':List (List UInt8)} {rest:List Ex} {k p:Int} {nm:List UInt8} {l:List Ex} {vo vt:Nat} {G:List AO} {env:Env} (he:FE H.length out (rest++[.mk 2 k nm l p]) vo vt env) (hr:rest.length<2000000) (ho:out.length<2000000) (hout:out'=if nm∈out then out else out++[nm])
 (h:∀ vo' G' env,FE H.length out' rest vo' vt env->LI Tryz.prog N drawB l20_0 env (H++FS e0 out' kp vp rest vo' vt G') K) :
 LI Tryz.prog N drawB l20_0 env (H++FS e0 out kp vp (rest++[.mk 2 k nm l p]) vo vt G) K:=by
 obtain⟨h3,h4,h5,h6⟩:=he
 have hl:(rest++[Ex.mk 2 k nm l p]).length=rest.length+1:=by simp
 rw[hl]at h6
 have hc:=exL_len (rest++[Ex.mk 2 k nm l p])
 rw[hl]at hc
 have hg:=exL_get (l:=rest++[Ex.mk 2 k nm l p]) (i:=rest.length) (by simp)
 have hg2:(rest++[Ex.mk 2 k nm l p])[rest.length]'(by simp)=Ex.mk 2 k nm l p:=by simp
 rw[hg2,Ex.c]at hg
 have w1:IntKind.i64.wrap (rest.length:Int)=(rest.length:Int):=wrap_nat (by omega)
 have hlk:=lkm_keys nm out
 refine li_go hm l20_0.eq_1 ?_
 simp only[FS]
 generalize hcc:Ex.cL (rest++[Ex.mk 2 k nm l p])=cc at hc hg ⊢
 have hki:=keys_is out
 have hms:=mset_keys nm out
 have htk:List.take (rest.length*5) cc=Ex.cL rest:=by
  rw[←hcc,exL_app,List.take_left' (exL_len rest)]
 have hal:((keysS out,valsS out):List Value×List SV).1.all KK.s.is=true:=List.all_eq_true.2 hki
 by_cases hin:nm∈out
 · rw[if_pos hin]at hlk hout
   subst hout
   simp -implicitDefEqProofs[h3,h4,h5,h6,hc,hg,w1,mo2,hki,hlk]
   refine⟨by omega,by omega,hki,?_⟩
   refine LI.tell (Tell.trunc (j:=H.length+4) (o:=⟨cc,24,vt,true⟩) (by simp) rfl (rest.length*5)) (LI.cong (H':=H++FS e0 out' kp vp rest vo vt (G++[⟨[i64 2,i64 k,st (B nm),.slc (Ex.cL l) l.length,i64 p],24,0,true⟩])) (by simp[FS,htk]) (h vo _ _ ⟨?_,?_,?_,?_⟩))
   all_goals simp
 · rw[if_neg hin]at hlk hout
   subst hout
   simp -implicitDefEqProofs[h3,h4,h5,h6,hc,hg,w1,mo2,hki,hlk]
   refine⟨by omega,by omega,hki,?_⟩
   refine s_mup_go (mo2 ..) rfl rfl hal ?_
   simp -implicitDefEqProofs[SV.key,(hms hin).1,(hms hin).2,h3]
   refine⟨by omega,by omega,?_⟩
   refine LI.tell (Tell.trunc (j:=H.length+4) (o:=⟨cc,24,vt,true⟩) (by simp) rfl (rest.length*5)) (LI.cong (H':=H++FS e0 (out++[nm]) kp vp rest (vo+1) vt (G++[⟨[i64 2,i64 k,st (B nm),.slc (Ex.cL l) l.length,i64 p],24,0,true⟩,⟨[st (B nm)],9,0,true⟩])) (by simp[FS,htk,wds]) (h (vo+1) _ _ ⟨?_,?_,?_,?_⟩))
   all_goals simp[h4,h5]
theorem free_in {l:List Ex} {op k p:Int} {nm:List UInt8} {rest:List Ex} {vo:Nat} {X:AO} (hX:X=⟨[i64 op,i64 k,st (B nm),.slc (Ex.cL l) l.length,i64 p],24,0,true⟩) (hl:l.length<2000000) (hrl:rest.length<2000000) {q:Nat} {A:List AO} (hq:q=A.length+5)
 (h:∀ vt G env,FE H.length out (rest++l.reverse) vo vt env->K (.exit 2) env (H++FS e0 out kp vp (rest++l.reverse) vo vt (A++X::G))) :
 ∀ (m:Nat) (vt:Nat) (G:List AO) (env:Env),m≤l.length->FE H.length out (rest++(l.drop m).reverse) vo vt env->env.get 7=.ptr (.own (H.length+q) 0 0 0 0) 0->env.get 8=i64 ((m:Int)-1) →
  LI Tryz.prog N drawB l20_1 env (H++FS e0 out kp vp (rest++(l.drop m).reverse) vo vt (A++X::G)) K:=by
 intro m
 induction m with
 | zero =>
  intro vt G env _ he h7 h8
  obtain⟨h3,h4,h5,h6⟩:=he
  refine li_go hm l20_1.eq_1 ?_
  rw[List.drop_zero]at *
  simp -implicitDefEqProofs[h3,h4,h5,h6,h7,h8]
  exact h vt G _ ⟨by simp[h3],by simp[h4],by simp[h5],by simp[h6]⟩
 | succ m ih =>
  intro vt G env hml he h7 h8
  obtain⟨h3,h4,h5,h6⟩:=he
  refine li_go hm l20_1.eq_1 ?_
  have hlt:m<l.length:=by omega
  have hlt':(m:Int)<l.length:=by omega
  have hg:=exL_get hlt
  have hcl':=exL_len l
  have hcr:=exL_len (rest++(l.drop (m+1)).reverse)
  have w0:IntKind.i64.wrap (m:Int)=m:=wrap_nat (by omega)
  have w1:IntKind.i64.wrap ((m:Int)-1)=(m:Int)-1:=wrap_id (by omega) (by omega)
  have hd:rest++(l.drop m).reverse=(rest++(l.drop (m+1)).reverse)++[l[m]]:=by
   rw[List.drop_eq_getElem_cons hlt,List.reverse_cons,List.append_assoc]
  simp only[FS]
  generalize hcc:Ex.cL (rest++(l.drop (m+1)).reverse)=cc at hcr ⊢
  generalize hrr:rest++(l.drop (m+1)).reverse=rr at *
  have hrrl:rr.length<4000000:=by rw[←hrr]; simp; omega
  subst hX hq
  have h8':env.get 8=i64 m:=by rw[h8]; congr 1; omega
  simp -implicitDefEqProofs[h3,h4,h5,h6,h7,h8',hlt,hlt',hg,hcl',hcr,w0,w1]
  have hrl2:(rest++(l.drop m).reverse).length=rr.length+1:=by rw[hd]; simp
  have hcd:Ex.cL (rest++(l.drop m).reverse)=cc++l[m].c:=by rw[hd,exL_app,hcc]; simp[Ex.cL]
  refine⟨by omega,by omega,by omega,LI.cong ?_ (ih (vt+1) (G++[⟨l[m].c,24,0,true⟩]) _ (by omega) ⟨?_,?_,?_,?_⟩ ?_ ?_)⟩
  · simp[FS,hcd]
  all_goals simp[hrl2]
theorem free_op1 {a:Addr} {cap:Nat} {l:List Ex} {op k p:Int} {nm:List UInt8} {rest:List Ex} {vo vt:Nat} {G:List AO} {env:Env} (hk:(SV.slc (Ex.cL l) l.length,Value.slice (some a) l.length cap)∈KnEnv.kn) (hop:op≠2) (hl0:l≠[]) (hl:l.length<2000000) (hrl:rest.length<2000000)
 (hkl:kp.length=vp.length) (hkn:∀ v∈kp,knowB v) (hmet:∀ v∈kp,vkeq (.pointer (some a)) v=false) (he:FE H.length out (rest++[.mk op k nm l p]) vo vt env)
 (h:∀ vt G env,FE H.length out (rest++l.reverse) vo vt env->LI Tryz.prog N drawB l20_0 env (H++FS e0 out (kp++[.pointer (some a)]) (vp++[i64 l.length]) (rest++l.reverse) vo vt G) K) :
 LI Tryz.prog N drawB l20_0 env (H++⟨e0.c,24,0,true⟩::⟨wds out,9,vo,true⟩::⟨.mk (keysS out)::valsS out,66,0,false⟩::⟨.mk kp::vp,67,0,false⟩::⟨Ex.cL rest++[i64 op,i64 k,st (B nm),.val (.slice (some a) l.length cap),i64 p],24,vt,true⟩::G) K:=by
 obtain⟨h3,h4,h5,h6⟩:=he
 have hlr:(rest++[Ex.mk op k nm l p]).length=rest.length+1:=by simp
 rw[hlr]at h6
 have hc:=exL_len rest
 have hg:List.take 5 (List.drop (rest.length*5) (Ex.cL rest++[i64 op,i64 k,st (B nm),.val (.slice (some a) l.length cap),i64 p]))=[i64 op,i64 k,st (B nm),.val (.slice (some a) l.length cap),i64 p]:=by
  rw[List.drop_left' hc]; rfl
 have w1:IntKind.i64.wrap (rest.length:Int)=(rest.length:Int):=wrap_nat (by omega)
 obtain⟨hlk,hms,hmv⟩:=lkm_none hmet hkl
 have hknow:knowB (.pointer (some a)):=by
  refine .inl ⟨KnFresh.fr,a,Ex.cL l,l.length,cap,rfl,hk,?_⟩
  cases l with
  | nil=>exact absurd rfl hl0
  | cons x r =>
   obtain⟨op,n,nm,l,p⟩:=x
   exact⟨B nm,by rw[Ex.cL,Ex.c]; exact List.mem_append_left _ (.tail _ (.tail _ (.head _)))⟩
 have hkall:∀ v∈Value.pointer (some a)::kp,(KK.p 24).knows v:=by
  intro v hv
  rcases List.mem_cons.1 hv with rfl | hv
  · exact hknow
  · exact hkn v hv
 have hkis:∀ v∈kp,(KK.p 24).is v=true:=by
  intro v hv
  rcases hkn v hv with ⟨_,b,_,_,_,rfl,_⟩ | ⟨b,_,_,_,rfl,_⟩ <;>
  rfl
 have hl0':¬ (l.length:Int)=0:=by
  cases l with
  | nil=>exact absurd rfl hl0
  | cons x r=>simp; omega
 have hl00:¬ l.length=0:=by omega
 have hpos:(0:Int)<l.length:=by omega
 refine li_go hm l20_0.eq_1 ?_
 have hcc2:(Ex.cL rest++[i64 op,i64 k,st (B nm),.val (.slice (some a) l.length cap),i64 p]).length=rest.length*5+5:=by simp[hc]
 have htk:List.take (rest.length*5) (Ex.cL rest++[i64 op,i64 k,st (B nm),.val (.slice (some a) l.length cap),i64 p])=Ex.cL rest:=List.take_left' hc
 generalize hccc:Ex.cL rest++[i64 op,i64 k,st (B nm),.val (.slice (some a) l.length cap),i64 p]=cc at hg hcc2 htk ⊢
 simp -implicitDefEqProofs[h3,h4,h5,h6,hc,hg,hcc2,w1,hop,hl0',hl0,hpos,mo3,add0,hlk,SV.isK,SV.key,SV.isP,SV.pval]
 have hal:((kp,vp):List Value×List SV).1.all (KK.p 24).is=true:=List.all_eq_true.2 hkis
 refine⟨by omega,rfl,by omega,⟨hkis,hkall _ (.head _),fun v hv=>hkall v (.tail _ hv)⟩,by omega,?_⟩
 refine s_mup_go (x:=(kp,vp)) (mo3 ..) rfl rfl hal ?_ (by simpa[SV.key,SV.pval]using hkall)
 simp -implicitDefEqProofs[SV.key,SV.pval,hms,hmv]
 have hX:(⟨[i64 op,i64 k,st (B nm),.slc (Ex.cL l) l.length,i64 p],24,0,true⟩:AO)=⟨[i64 op,i64 k,st (B nm),.slc (Ex.cL l) l.length,i64 p],24,0,true⟩:=rfl
 have wl:IntKind.i64.wrap ((l.length:Int)-1)=(l.length:Int)-1:=wrap_id (by omega) (by omega)
 refine LI.tell (Tell.known (j:=H.length+(G.length+5)) (p:=3) (o:=⟨[i64 op,i64 k,st (B nm),.val (.slice (some a) l.length cap),i64 p],24,0,true⟩) (by simp) rfl rfl hk) ?_
 refine LI.tell (Tell.trunc (j:=H.length+4) (o:=⟨cc,24,vt,true⟩) (by simp) rfl (rest.length*5)) ?_
 refine LI.cong (H':=H++FS e0 out (kp++[.pointer (some a)]) (vp++[i64 l.length]) (rest++(l.drop l.length).reverse) vo vt (G++⟨[i64 op,i64 k,st (B nm),.slc (Ex.cL l) l.length,i64 p],24,0,true⟩::[])) (by simp[FS,htk]) ?_
 refine free_in hX hl hrl (q:=G.length+5) (A:=G) rfl (fun vt G' env he => ?_) l.length vt [] _ (Nat.le_refl _) ⟨?_,?_,?_,?_⟩ ?_ ?_
 · simp -implicitDefEqProofs
   exact h vt _ env he
 all_goals simp[h3,h4,h5,wl]
theorem know_cons {x:SV×Value} {v:Value} (h:knowB v) : @knowB _ ⟨x::KnEnv.kn⟩ v:=by
 rcases h with ⟨hf,a,cells,len,cap,h1,h2,h3⟩ | ⟨a,cells,len,cap,h1,h2,h3⟩
 · exact .inl ⟨hf,a,cells,len,cap,h1,List.mem_cons_of_mem _ h2,h3⟩
 · exact .inr ⟨a,cells,len,cap,h1,List.mem_cons_of_mem _ h2,h3⟩
theorem free_op {l:List Ex} {op k p:Int} {nm:List UInt8} {rest:List Ex} {vo vt:Nat} {G:List AO} {env:Env} (hop:op≠2) (hl0:l≠[]) (hl:l.length<2000000) (hrl:rest.length<2000000)
 (hkl:kp.length=vp.length) (hkn:∀ v∈kp,knowB v) (hmet:∀ a cap S,@Sim _ _ ⟨(.slc (Ex.cL l) l.length,.slice (some a) l.length cap)::KnEnv.kn⟩ S->∀ v∈kp,vkeq (.pointer (some a)) v=false) (he:FE H.length out (rest++[.mk op k nm l p]) vo vt env)
 (h:∀ a cap vt G env,FE H.length out (rest++l.reverse) vo vt env -> @LI _ _ ⟨(.slc (Ex.cL l) l.length,.slice (some a) l.length cap)::KnEnv.kn⟩ Tryz.prog N drawB l20_0 env (H++FS e0 out (kp++[.pointer (some a)]) (vp++[i64 l.length]) (rest++l.reverse) vo vt G) K) :
 LI Tryz.prog N drawB l20_0 env (H++FS e0 out kp vp (rest++[.mk op k nm l p]) vo vt G) K:=by
 have hcl:Ex.cL (rest++[Ex.mk op k nm l p])=Ex.cL rest++[i64 op,i64 k,st (B nm),.slc (Ex.cL l) l.length,i64 p]:=by rw[exL_app]; simp[Ex.cL,Ex.c]
 have hne:Ex.cL l≠[]:=by
  cases l with
  | nil=>exact absurd rfl hl0
  | cons x r=>obtain⟨a,b,c,d,e⟩:=x; simp[Ex.cL,Ex.c]
 have hc:=exL_len rest
 refine LI.learn (H.length+4) (rest.length*5+3) (o:=⟨Ex.cL (rest++[Ex.mk op k nm l p]),24,vt,true⟩) (cells:=Ex.cL l) (len:=l.length) (by simp[FS]) rfl ?_ hne (Ex.undL 0 l) fun a cap => ?_
 · rw[hcl,List.getElem?_append_right (by omega)]
   have e:rest.length*5+3-(Ex.cL rest).length=3:=by omega
   rw[e]; rfl
 · refine @LI.fact _ _ ⟨(.slc (Ex.cL l) l.length,.slice (some a) l.length cap)::KnEnv.kn⟩ _ _ _ _ _ _ _ (∀ v∈kp,vkeq (.pointer (some a)) v=false) (fun S hS _=>hmet a cap S hS) fun hm2 => ?_
   have hset:(Ex.cL (rest++[Ex.mk op k nm l p])).set (rest.length*5+3) (.val (.slice (some a) l.length cap))=Ex.cL rest++[i64 op,i64 k,st (B nm),.val (.slice (some a) l.length cap),i64 p]:=by
    rw[hcl,List.set_append_right _ _ (by omega)]
    have e:rest.length*5+3-(Ex.cL rest).length=3:=by omega
    rw[e]; rfl
   refine @LI.cong _ _ ⟨(.slc (Ex.cL l) l.length,.slice (some a) l.length cap)::KnEnv.kn⟩ _ _ _ _ _ _ _ _ ?_ (@free_op1 _ _ ⟨(.slc (Ex.cL l) l.length,.slice (some a) l.length cap)::KnEnv.kn⟩ H e0 out kp vp N K a cap l op k p nm rest vo vt G env (List.mem_cons_self ..) hop hl0 hl hrl hkl (fun v hv=>know_cons (hkn v hv)) hm2 he (h a cap))
   rw[hset]
   simp[FS]
end
end Go.Proofs.YtcejichidnlicaaGreatDoor
namespace Go.Proofs.YtcejichidnlicaaGreatDoor
open Go.Ab
variable [FrEnv] [KnFresh]
section
variable {H:List AO} {p0 p1 q0 q1 q2:Int}
abbrev exF (p0 p1 q0 q1 q2:Int):Ex:=.mk 8 0 [] [.mk 2 0 [120] [] q0,.mk 5 0 [] [.mk 2 0 [121] [] q1,.mk 2 0 [120] [] q2] p1] p0
theorem free_run {N:Nat} {K:XE->Env->List AO->Prop} {G:List AO} {env:Env} (he:FE H.length [] ([]++[exF p0 p1 q0 q1 q2]) 0 0 env)
 (hK:∀ vo vt G kp vp env,env.get 3=.own (H.length+1) 0 2 1 vo->K (.exit 0) env (H++FS (exF p0 p1 q0 q1 q2) [[120],[121]] kp vp [] vo vt G)) :
 LI Tryz.prog N drawB l20_0 env (H++FS (exF p0 p1 q0 q1 q2) [] [] [] ([]++[exF p0 p1 q0 q1 q2]) 0 0 G) K:=by
 refine free_op (by decide) (by simp) (by simp) (by simp) rfl (fun v hv=>by cases hv) (fun a cap S hS v hv=>by cases hv) he fun a1 c1 vt1 G1 env1 he1 => ?_
 let k1:KnEnv:=⟨(.slc (Ex.cL [.mk 2 0 [120] [] q0,.mk 5 0 [] [.mk 2 0 [121] [] q1,.mk 2 0 [120] [] q2] p1]) 2,.slice (some a1) 2 c1)::KnEnv.kn⟩
 refine @free_name _ _ k1 H (exF p0 p1 q0 q1 q2) [] _ _ N K [[120]] [.mk 5 0 [] [.mk 2 0 [121] [] q1,.mk 2 0 [120] [] q2] p1] 0 q0 [120] [] 0 vt1 G1 env1 he1 (by simp) (by simp) rfl fun vo2 G2 env2 he2 => ?_
 refine @free_op _ _ k1 H (exF p0 p1 q0 q1 q2) [[120]] _ _ N K [.mk 2 0 [121] [] q1,.mk 2 0 [120] [] q2] 5 0 p1 [] [] vo2 vt1 G2 env2 (by decide) (by simp) (by simp) (by simp) rfl ?_ ?_ he2 fun a2 c2 vt3 G3 env3 he3 => ?_
 · intro v hv
   simp only[List.nil_append,List.mem_singleton]at hv
   subst hv
   exact .inl ⟨KnFresh.fr,a1,_,_,_,rfl,List.mem_cons_self ..,B [120],.tail _ (.tail _ (.head _))⟩
 · intro a2 c2 S hS v hv
   simp only[List.nil_append,List.mem_singleton]at hv
   subst hv
   rw[vkeq_ptr]
   refine decide_eq_false fun e => ?_
   subst e
   have := @know_same _ _ ⟨(.slc (Ex.cL [.mk 2 0 [121] [] q1,.mk 2 0 [120] [] q2]) 2,.slice (some a2) 2 c2)::k1.kn⟩ S hS a2 _ _ _ _ _ _ (List.mem_cons_self ..) (List.mem_cons_of_mem _ (List.mem_cons_self ..)) 2 (.string (B [121])) (.string (B [120])) rfl rfl
   simp[B]at this
 let k2:KnEnv:=⟨(.slc (Ex.cL [.mk 2 0 [121] [] q1,.mk 2 0 [120] [] q2]) 2,.slice (some a2) 2 c2)::k1.kn⟩
 refine @free_name _ _ k2 H (exF p0 p1 q0 q1 q2) [[120]] _ _ N K [[120],[121]] [.mk 2 0 [120] [] q2] 0 q1 [121] [] vo2 vt3 G3 env3 he3 (by simp) (by simp) rfl fun vo4 G4 env4 he4 => ?_
 refine @free_name _ _ k2 H (exF p0 p1 q0 q1 q2) [[120],[121]] _ _ N K [[120],[121]] [] 0 q2 [120] [] vo4 vt3 G4 env4 he4 (by simp) (by simp) rfl fun vo5 G5 env5 he5 => ?_
 exact @free_end _ _ k2 H (exF p0 p1 q0 q1 q2) [[120],[121]] _ _ N K vo5 vt3 G5 env5 he5 (fun env h=>hK vo5 vt3 G5 _ _ env h)
theorem ok20c:Ok Tryz.prog 20 [(exF p0 p1 q0 q1 q2).v] H (.ret (.slc (wds [[120],[121]]) 2)) H:=by
 refine ok_fn hm Tryz.func20 c20 (by simp[Ex.und_v]) fun hcl => ?_
 simp -implicitDefEqProofs[i20,r20,Ex.v,Ex.c]
 refine LI.cong (H':=H++FS (exF p0 p1 q0 q1 q2) [] [] [] ([]++[exF p0 p1 q0 q1 q2]) 0 0 []) (by simp[FS,Ex.cL,Ex.c,wds,keysS,valsS]) ?_
 refine free_run ⟨?_,?_,?_,?_⟩ (fun vo vt G kp vp env h3 => ?_)
 · simp
 · simp
 · simp
 · simp
 · simp -implicitDefEqProofs[h3]
   exact cv_fz 3 hcl rfl (by simp[FS,wds])
end
end Go.Proofs.YtcejichidnlicaaGreatDoor
namespace Go.Proofs.YtcejichidnlicaaGreatDoor
open Go.Ab
variable [FrEnv]
section
variable {H:List AO}
theorem ok18 {e:Ex} {s:List UInt8} {n:Int} (hn : -1000000000000≤n∧n≤1000000000000) (hd:e.hgt+2≤100000) (hl:e.lim2):Ok Tryz.prog 18 [e.v,st (B s),i64 n] H (.ret (putE s n e).v) H:=by
 have h34:=fun(G:List AO) (a b:Nat) ha hb=>ok34p (s:=s) hn e 0 (by omega) hl (H:=G) (a:=a) (b:=b) ha hb
 have hu:∀ m,(putE s n e).v.under m=true:=fun m=>Ex.und_v m _
 generalize hy:putE s n e=y at h34 hu ⊢
 refine ok_fn hm Tryz.func18 c18 (by simp[Ex.und_v]) fun hcl => ?_
 obtain⟨op,k,nm,l,p⟩:=e
 obtain⟨op',k',nm',l',p'⟩:=y
 simp only[Ex.v,Ex.c,rp]at h34
 simp -implicitDefEqProofs[i18,r18,Ex.v,Ex.c]
 refine call_go (h34 _ (H.length+1) (H.length+2) (by simp) (by simp)) ?_
 simp -implicitDefEqProofs
 exact cv_fz 3 hcl rfl (by simp)
end
end Go.Proofs.YtcejichidnlicaaGreatDoor
namespace Go.Proofs.YtcejichidnlicaaGreatDoor
open Go.Ab
variable [FrEnv]
section
variable {H:List AO}
theorem loop19 {x y:SV} {l l':List (List UInt8)} (hx:IsS H x l) (hy:IsS H y l') (hl:l.length<4611686018427387904) (he:l.length=l'.length) {N:Nat} {K:XE->Env->List AO->Prop}
 (hret:l≠l'->∀ env,env.get 4=bl false->K .ret env H) (hexit:l=l'->∀ env,K (.exit 0) env H) :
 ∀ (m i:Nat) (env:Env),i+m=l.length->(l=l'↔l.drop i=l'.drop i)->env.get 0=x->env.get 1=y->env.get 5=i64 i->LI Tryz.prog N drawB l19_0 env H K:=by
 intro m
 induction m with
 | zero =>
  intro i env hi hq h0 h1 h5
  refine li_go hm l19_0.eq_1 ?_
  have e:i=l.length:=by omega
  subst e
  rw[List.drop_length,List.drop_of_length_le (by omega)]at hq
  simp -implicitDefEqProofs[h0,h1,h5,hx.vd,hx.ug,hx.sl,hx.len,hy.vd,hy.ug,hy.sl,hy.len]
  exact hexit (hq.2 rfl) _
 | succ m ih =>
  intro i env hi hq h0 h1 h5
  refine li_go hm l19_0.eq_1 ?_
  have hlt:i<l.length:=by omega
  have hlt':(i:Int)<l.length:=by omega
  have hlt2:i<l'.length:=by omega
  have hlt2':(i:Int)<l'.length:=by omega
  rw[List.drop_eq_getElem_cons hlt,List.drop_eq_getElem_cons hlt2]at hq
  have hv:=hx.vA [] hlt
  have ho:=hx.okA [] hlt
  have hv2:=hy.vA [] hlt2
  have ho2:=hy.okA [] hlt2
  simp only[List.append_nil]at hv ho hv2 ho2
  generalize l[i]=v at hq hv
  generalize l'[i]=u at hq hv2
  by_cases hs:v=u
  · subst hs
    simp -implicitDefEqProofs[h0,h1,h5,hlt,hlt',hlt2,hlt2',hx.vd,hx.ug,hx.sl,hx.cell,hx.sz,hx.len,hv,ho,hy.vd,hy.ug,hy.sl,hy.cell,hy.sz,hy.len,hv2,ho2]
    refine ih (i+1) _ (by omega) ?_ ?_ ?_ ?_
    · rw[hq]; simp
    all_goals simp[h0,h1,wrap_suc (show i<9223372036854775807 by omega)]
  · have hne:l≠l':=fun h=>hs (by have:=hq.1 h; simpa using (List.cons.inj this).1)
    simp -implicitDefEqProofs[h0,h1,h5,hlt,hlt',hlt2,hlt2',hx.vd,hx.ug,hx.sl,hx.cell,hx.sz,hx.len,hv,ho,hy.vd,hy.ug,hy.sl,hy.cell,hy.sz,hy.len,hv2,ho2,hs]
    exact hret hne _ (by simp)
theorem ok19 {x y:SV} {l l':List (List UInt8)} (hx:IsS H x l) (hy:IsS H y l') (hl:l.length<4611686018427387904) (hl2:l'.length<4611686018427387904):Ok Tryz.prog 19 [x,y] H (.ret (bl (decide (l=l')))) H:=by
 refine ok_fn hm Tryz.func19 c19 (by simp[hx.vd,hy.vd]) fun hcl => ?_
 by_cases he:l.length=l'.length
 · simp -implicitDefEqProofs[i19,r19,hx.vd,hx.ug,hx.sl,hx.len,hy.vd,hy.ug,hy.sl,hy.len,he]
   refine loop19 hx hy hl he (fun hs env h4 => ?_) (fun hs env => ?_) l.length 0 _ (by omega) (by simp) ?_ ?_ ?_
   · simp -implicitDefEqProofs[h4,hs]
     exact cv_id
   · simp -implicitDefEqProofs[hs]
     exact cv_id
   all_goals simp
 · have he':¬ (l.length:Int)=l'.length:=by omega
   have hne:l≠l':=fun h=>he (by rw[h])
   simp -implicitDefEqProofs[i19,r19,hx.vd,hx.ug,hx.sl,hx.len,hy.vd,hy.ug,hy.sl,hy.len,he',hne]
   exact cv_id
end
end Go.Proofs.YtcejichidnlicaaGreatDoor
namespace Go.Proofs.YtcejichidnlicaaGreatDoor
open Go.Ab
variable [FrEnv] [KnFresh]
def Ex.sub:Ex->Nat->Ex
 | .mk _ _ _ l _,i=>l.getD i zE
abbrev Ex.l0 (e:Ex):Ex:=e.sub 0
abbrev Ex.l1 (e:Ex):Ex:=e.sub 1
section
variable {H:List AO}
theorem gx0:Ok Tryz.prog 15 [st ⟨#[120,32,47,32,50]⟩,i64 1,i64 2,i64 0] H (.ret (bl true)) H:=gv_ok [120,32,47,32,50] 1 2 (by kernel_rfl)
theorem gx1:Ok Tryz.prog 15 [st ⟨#[120,32,37,32,51]⟩,i64 1,i64 2,i64 0] H (.ret (bl true)) H:=gv_ok [120,32,37,32,51] 1 2 (by kernel_rfl)
theorem gx2:Ok Tryz.prog 15 [st ⟨#[121,32,37,32,52]⟩,i64 1,i64 2,i64 0] H (.ret (bl true)) H:=gv_ok [121,32,37,32,52] 1 2 (by kernel_rfl)
theorem gx3:Ok Tryz.prog 15 [st ⟨#[120,32,37,32,121]⟩,i64 1,i64 (-1),i64 0] H (.ret (bl true)) H:=gv_ok [120,32,37,32,121] 1 (-1) (by kernel_rfl)
theorem gx4:Ok Tryz.prog 15 [st ⟨#[120,32,61,61,32,53,32,111,114,32,49,32,47,32,48,32,61,61,32,49]⟩,i64 2,i64 1,i64 0] H (.ret (bl true)) H:=gv_ok [120,32,61,61,32,53,32,111,114,32,49,32,47,32,48,32,61,61,32,49] 2 1 (by kernel_rfl)
theorem gx5:Ok Tryz.prog 15 [st ⟨#[49,32,47,32,48,32,61,61,32,49,32,111,114,32,120,32,61,61,32,53]⟩,i64 0,i64 0,i64 6] H (.ret (bl true)) H:=ge_ok [49,32,47,32,48,32,61,61,32,49,32,111,114,32,120,32,61,61,32,53] 6 (by kernel_rfl)
theorem gx6:Ok Tryz.prog 15 [st ⟨#[105,102,40,120,32,60,32,121,44,32,49,32,47,32,48,44,32,55,41]⟩,i64 1,i64 7,i64 0] H (.ret (bl true)) H:=gv_ok [105,102,40,120,32,60,32,121,44,32,49,32,47,32,48,44,32,55,41] 1 7 (by kernel_rfl)
theorem gx7:Ok Tryz.prog 15 [st ⟨#[122]⟩,i64 0,i64 0,i64 7] H (.ret (bl true)) H:=ge_ok [122] 7 (by kernel_rfl)
theorem gx8:Ok Tryz.prog 15 [st ⟨#[110,111,116,32,120]⟩,i64 0,i64 0,i64 10] H (.ret (bl true)) H:=ge_ok [110,111,116,32,120] 10 (by kernel_rfl)
theorem gx9:Ok Tryz.prog 15 [st ⟨#[49,48,48,48,48,48,48,48,48,48,32,42,32,49,48,48,48]⟩,i64 1,i64 1000000000000,i64 0] H (.ret (bl true)) H:=gv_ok [49,48,48,48,48,48,48,48,48,48,32,42,32,49,48,48,48] 1 1000000000000 (by kernel_rfl)
theorem gx10:Ok Tryz.prog 15 [st ⟨#[49,48,48,48,48,48,48,48,48,48,32,42,32,49,48,48,49]⟩,i64 0,i64 0,i64 5] H (.ret (bl true)) H:=ge_ok [49,48,48,48,48,48,48,48,48,48,32,42,32,49,48,48,49] 5 (by kernel_rfl)
theorem fx0:Ok Tryz.prog 21 [st ⟨#[105,102,40,49,32,60,32,50,44,32,120,44,32,49,32,47,32,48,41]⟩,st ⟨#[120]⟩] H (.ret (bl true)) H:=ok21 (l:=[105,102,40,49,32,60,32,50,44,32,120,44,32,49,32,47,32,48,41]) (w:=[120]) (by kernel_rfl)
theorem fx1:Ok Tryz.prog 21 [st ⟨#[49,32,45,32,51]⟩,st ⟨#[45,32,50]⟩] H (.ret (bl true)) H:=ok21 (l:=[49,32,45,32,51]) (w:=[45,32,50]) (by kernel_rfl)
theorem fx2:Ok Tryz.prog 21 [st ⟨#[49,32,47,32,48]⟩,st ⟨#[49,32,47,32,48]⟩] H (.ret (bl true)) H:=ok21 (l:=[49,32,47,32,48]) (w:=[49,32,47,32,48]) (by kernel_rfl)
theorem fx3:Ok Tryz.prog 21 [st ⟨#[105,102,40,49,32,60,32,50,44,32,51,44,32,120,41,32,43,32,52]⟩,st ⟨#[55]⟩] H (.ret (bl true)) H:=ok21 (l:=[105,102,40,49,32,60,32,50,44,32,51,44,32,120,41,32,43,32,52]) (w:=[55]) (by kernel_rfl)
theorem fx4:Ok Tryz.prog 21 [st ⟨#[105,102,40,105,102,40,49,32,60,32,50,44,32,51,44,32,120,41,32,61,61,32,51,44,32,120,44,32,53,41]⟩,st ⟨#[120]⟩] H (.ret (bl true)) H:=ok21 (l:=[105,102,40,105,102,40,49,32,60,32,50,44,32,51,44,32,120,41,32,61,61,32,51,44,32,120,44,32,53,41]) (w:=[120]) (by kernel_rfl)
def ke1:Ex:=(exprR [120]).1
def ke2:Ex:=(exprR [120,32,60,32,121]).1
def ke3:Ex:=(exprR [120,32,43,32,121]).1
def ke4:Ex:=(exprR [120,32,43,32,121,32,42,32,120]).1
theorem kx1:Ok Tryz.prog 16 [st ⟨#[120]⟩] H (.ret ke1.v) H:=ok16 (l:=[120]) (by decide)
theorem kx2:Ok Tryz.prog 16 [st ⟨#[120,32,60,32,121]⟩] H (.ret ke2.v) H:=ok16 (l:=[120,32,60,32,121]) (by decide)
theorem kx3:Ok Tryz.prog 16 [st ⟨#[120,32,43,32,121]⟩] H (.ret ke3.v) H:=ok16 (l:=[120,32,43,32,121]) (by decide)
theorem kx4:Ok Tryz.prog 16 [st ⟨#[120,32,43,32,121,32,42,32,120]⟩] H (.ret ke4.v) H:=ok16 (l:=[120,32,43,32,121,32,42,32,120]) (by decide)
theorem ke1_h:ke1.hgt≤100000:=of_decide_eq_true (by kernel_rfl)
theorem ke2_h:ke2.hgt≤100000:=of_decide_eq_true (by kernel_rfl)
theorem ev1:Ok Tryz.prog 9 [ke1.v,.slc (wds xyN) 2,.slc (ints [1]) 1] H (.ret (.tup [.agg [i64 0,i64 0],i64 3])) H:=by
 have:=ok9 (H:=H) (ns:=xyN) (vs:=[1]) (e:=ke1) ke1_h (by decide)
 have hv:evalF xyN [1] ke1=.error 3:=rfl
 rw[hv]at this
 exact this
theorem ev2:Ok Tryz.prog 11 [ke2.v,.slc (wds xyN) 2,.slc (ints [1,2]) 2] H (.ret (.tup [i64 0,i64 10])) H:=by
 have:=ok11 (H:=H) (ns:=xyN) (vs:=[1,2]) (e:=ke2) ke2_h (by decide)
 have hv:evalF xyN [1,2] ke2=.ok (2,1):=vIs_eq (by kernel_rfl)
 rw[hv]at this
 exact this
theorem ev3:Ok Tryz.prog 13 [ke1.v,.slc (wds [[120]]) 1,.slc (ints [1]) 1] H (.ret (.tup [bl false,i64 10])) H:=by
 have:=ok13 (H:=H) (ns:=[[120]]) (vs:=[1]) (e:=ke1) ke1_h (by decide)
 have hv:evalF [[120]] [1] ke1=.ok (1,1):=vIs_eq (by kernel_rfl)
 rw[hv]at this
 exact this
def ke5:Ex:=putE [121] (-2) ke3
theorem ke3_l:ke3.lim2:=by
 have:∃ a b c,ke3=.mk 8 0 [] [.mk 2 0 [120] [] a,.mk 2 0 [121] [] b] c:=⟨ke3.l0.at,ke3.l1.at,ke3.at,by kernel_rfl⟩
 obtain⟨a,b,c,h⟩:=this
 rw[h]
 simp[Ex.lim2,Ex.lim2L]
theorem put3:Ok Tryz.prog 18 [ke3.v,st ⟨#[121]⟩,i64 (-2)] H (.ret ke5.v) H:=ok18 (e:=ke3) (s:=[121]) (by decide) (of_decide_eq_true (by kernel_rfl)) ke3_l
theorem show3:Ok Tryz.prog 17 [ke5.v] H (.ret (.tup [st ⟨#[120,32,43,32,40,45,32,50,41]⟩,i64 0])) H:=ok17 (e:=ke5) (s:=[120,32,43,32,40,45,32,50,41]) (nmb_ok _ (by kernel_rfl)) (by kernel_rfl) (of_decide_eq_true (by kernel_rfl)) (by decide) (of_decide_eq_true (by kernel_rfl))
theorem free4:Ok Tryz.prog 20 [ke4.v] H (.ret (.slc (wds [[120],[121]]) 2)) H:=by
 have:∃ p0 p1 q0 q1 q2,ke4=exF p0 p1 q0 q1 q2:=⟨ke4.at,ke4.l1.at,ke4.l0.at,ke4.l1.l0.at,ke4.l1.l1.at,by kernel_rfl⟩
 obtain⟨p0,p1,q0,q1,q2,h⟩:=this
 rw[h]
 exact ok20c
end
end Go.Proofs.YtcejichidnlicaaGreatDoor
namespace Go.Proofs.YtcejichidnlicaaGreatDoor
open Go.Ab
variable [FrEnv] [KnFresh]
section
variable {H:List AO}
theorem give2x {f:FuncId} {x:SV} (L:List AO) (ss ts:List SV) {T1 T2:TypeId} {out:Out} (hx:∀ n,x.under n=true) (h:∀ G,Ok Tryz.prog f [x,.slc ss ss.length,.slc ts ts.length] G out G) :
 Ok Tryz.prog f [x,.own (H.length+L.length) 0 ss.length 1 0,.own (H.length+(L.length+1)) 0 ts.length 1 0] (H++(L++[⟨ss,T1,0,true⟩,⟨ts,T2,0,true⟩])) out (H++(L++[AO.dead ⟨ss,T1,0,true⟩,AO.dead ⟨ts,T2,0,true⟩])):=by
 have:=give2 (H:=H++L) (T1:=T1) (T2:=T2) ss ts (hx _) h
 simpa[Nat.add_assoc]using this
theorem ok4:Ok Tryz.prog 4 [] H (.ret (bl true)) H:=by
 have k1:=fun H=>kx1 (H:=H)
 have k2:=fun H=>kx2 (H:=H)
 have k3:=fun H=>kx3 (H:=H)
 have k4:=fun H=>kx4 (H:=H)
 have e1:=fun H=>ev1 (H:=H)
 have e2:=fun H=>ev2 (H:=H)
 have e3:=fun H=>ev3 (H:=H)
 have p3:=fun H=>put3 (H:=H)
 have s3:=fun H=>show3 (H:=H)
 have f4:=fun H=>free4 (H:=H)
 have u1:∀ n,ke1.v.under n=true:=fun n=>Ex.und_v n _
 have u2:∀ n,ke2.v.under n=true:=fun n=>Ex.und_v n _
 have t4:ke4.v.strip=ke4.v:=by obtain⟨o,k,n,l,p⟩:=ke4; simp[Ex.v,SV.strip]
 generalize ke1.v=w1 at *
 generalize ke2.v=w2 at *
 generalize ke3.v=w3 at *
 generalize ke4.v=w4 at *
 generalize ke5.v=w5 at *
 refine ok_fn hm Tryz.func4 c4 (by simp) fun hcl => ?_
 simp -implicitDefEqProofs[i4,r4]
 refine call_go gx0 ?_
 simp -implicitDefEqProofs
 refine callq_go (fun _=>gx1) ?_
 simp -implicitDefEqProofs
 refine callq_go (fun _=>gx2) ?_
 simp -implicitDefEqProofs
 refine callq_go (fun _=>gx3) ?_
 simp -implicitDefEqProofs
 refine callq_go (fun _=>gx4) ?_
 simp -implicitDefEqProofs
 refine callq_go (fun _=>gx5) ?_
 simp -implicitDefEqProofs
 refine call_go gx6 ?_
 simp -implicitDefEqProofs
 refine callq_go (fun _=>gx7) ?_
 simp -implicitDefEqProofs
 refine callq_go (fun _=>gx8) ?_
 simp -implicitDefEqProofs
 refine callq_go (fun _=>gx9) ?_
 simp -implicitDefEqProofs
 refine callq_go (fun _=>gx10) ?_
 simp -implicitDefEqProofs
 refine call_go (k1 _) ?_
 simp -implicitDefEqProofs
 refine call_go (give2 (H:=H) (wds xyN) (ints [1]) (u1 _) e1) ?_
 simp -implicitDefEqProofs[retV]
 refine call_go (k2 _) ?_
 simp -implicitDefEqProofs
 refine call_go (give2x (H:=H) [_,_,_] (wds xyN) (ints [1,2]) u2 e2) ?_
 simp -implicitDefEqProofs[retV]
 refine call_go (k1 _) ?_
 simp -implicitDefEqProofs
 refine call_go (give2x (H:=H) [_,_,_,_,_] (wds [[120]]) (ints [1]) u1 e3) ?_
 simp -implicitDefEqProofs[retV]
 refine call_go (k3 _) ?_
 simp -implicitDefEqProofs
 refine call_go (p3 _) ?_
 simp -implicitDefEqProofs
 refine call_go (s3 _) ?_
 simp -implicitDefEqProofs[retV]
 refine callq_go (fun _=>k4 _) ?_
 simp -implicitDefEqProofs
 refine callq_st (r:=.slc (wds [[120],[121]]) 2) (fun _=>by simpa[SV.strip,t4]using f4 _) ?_
 simp -implicitDefEqProofs
 refine callq_st (r:=bl true) (fun _=>ok19 (x:=.slc (wds [[120],[121]]) 2) (y:=.own (H.length+7) 0 2 1 0) (l:=[[120],[121]]) (l':=[[120],[121]]) (IsS.slc _ _) ?_ (by decide) (by decide)) ?_
 · exact IsS.own1 (T:=9) (k:=7) rfl rfl
 simp -implicitDefEqProofs
 refine call_go ok8 ?_
 simp -implicitDefEqProofs
 refine callq_go (fun _=>fx0) ?_
 simp -implicitDefEqProofs
 refine callq_go (fun _=>fx1) ?_
 simp -implicitDefEqProofs
 refine callq_go (fun _=>fx2) ?_
 simp -implicitDefEqProofs
 refine callq_go (fun _=>fx3) ?_
 simp -implicitDefEqProofs
 refine callq_go (fun _=>fx4) ?_
 simp -implicitDefEqProofs
 refine cv_fz 4 hcl rfl ?_
 simp
end
end Go.Proofs.YtcejichidnlicaaGreatDoor
namespace Go.Proofs.YtcejichidnlicaaGreatDoor
open Go.Ab
theorem Ok.lift {P:Program} {f:FuncId} {u:Value} (hg:∀ g us,GlobEnv.vars g=some us->us.all isNumV=true) (h : @Ok _ ⟨true⟩ knNone P f [] [] (.ret (.val u)) []) (H:List AO) : @Ok _ ⟨false⟩ knNone P f [] H (.ret (.val u)) H:=by
 refine⟨h.1,fun S vs hS hSim hv => ?_⟩
 have hn:∀ k,¬ St.rw ⟨fun _=>none,[],S.w⟩ k:=by
  rintro k ⟨i,o,ho,_⟩
  simp at ho
 have h0 : @Sim ⟨true⟩ _ knNone ⟨fun _=>none,[],S.w⟩:=by
  refine @Sim.mk ⟨true⟩ _ knNone _ ?_ ?_ ?_ ?_ ?_ ?_
  · intro i o ho; simp at ho
  · intro i o ho; simp at ho
  · intro i j o o' b ho; simp at ho
  · intro i o ho; simp at ho
  · intro g us hgu
    obtain⟨⟨h1,_,_⟩,h2⟩ := @Sim.gl ⟨false⟩ _ knNone _ hSim g us hgu
    exact⟨⟨h1,fun _=>hn _,fun _ _=>.inr (hg g us hgu)⟩,h2⟩
  · intro p hp; cases hp
 have hv0 : @VRs ⟨true⟩ ⟨fun _=>none,[],S.w⟩ [] vs:=by
  have:=List.eq_nil_of_length_eq_zero (hv.1)
  subst this
  exact @VRs.nil ⟨true⟩ _
 refine(h.2 ⟨fun _=>none,[],S.w⟩ vs rfl h0 hv0).mono ?_
 rintro e w' ⟨v,ρ',he,_,hev,hvr⟩
 have hk:∀ k,k<S.w.heap.size->w'.heap[k]? = S.w.heap[k]? := fun k hk=>(he.imm k hk (hn k)).1
 have hx:Ext S.H.length S ⟨S.ρ,S.H,w'⟩:=by
  refine⟨fun _ o _ h=>⟨o,h,Nat.le_refl _,fun _=>rfl⟩,fun k hk1 hr=>⟨hk k hk1,hr⟩,he.size,he.shape,he.loops,he.os,he.tape,he.output⟩
 subst hS
 refine⟨v,S.ρ,hx,?_,hev,?_⟩
 · exact @Sim.step _ ⟨false⟩ knNone _ _ hSim hx (Nat.le_refl _) (fun i o ho=>.inl ⟨ho,rfl,fun b hb hl=>hk b (@Sim.lt ⟨false⟩ _ knNone _ hSim b ⟨i,o,ho,hl,hb⟩)⟩) fun i j o o' b hi hj hl hl' h1 h2 => @Sim.inj ⟨false⟩ _ knNone _ hSim i j o o' b hi hj hl hl' h1 h2
 · cases hvr
   exact @VR.val ⟨false⟩ _ _
theorem vars_num:∀ g us,GlobEnv.vars g=some us->us.all isNumV=true:=by
 intro g us hg
 match g,hg with
 | 0,hg=>cases hg; rfl
theorem ok4f (H:List AO) : @Ok _ ⟨false⟩ knNone Tryz.prog 4 [] H (.ret (bl true)) H :=
 Ok.lift vars_num (@ok4 ⟨true⟩ (@KnFresh.mk ⟨true⟩ rfl) []) H
end Go.Proofs.YtcejichidnlicaaGreatDoor
namespace Go.Proofs.YtcejichidnlicaaGreatDoor
open Go.Ab
@[simp] theorem gv_pn {k ver:Nat} {cs:List SV} {d:Nat} (x:SV):SV.gv k ver cs d (.pn x)=.pn x:=by cases d<;>rfl
def abcN:List (List UInt8):=[[97],[98],[99]]
def acN:List (List UInt8):=[[97],[99]]
theorem loop6 {out:List (List UInt8)} (ho:[98]∉out) (hl:out.length<2000000) {H:List AO} {N:Nat} {K:XE->Env->List AO->Prop} {v9 v13 v14 v15 v16:SV}
 (hexit:∀ env,env.get 9=v9->env.get 13=v13->env.get 14=v14->env.get 15=v15->env.get 16=v16->K (.exit 0) env H) :
 ∀ (k i:Nat) (env:Env),i+k=out.length->env.get 17=.slc (wds out) out.length->env.get 18=i64 i->env.get 9=v9->env.get 13=v13->env.get 14=v14->env.get 15=v15->env.get 16=v16->LI Tryz.prog N drawB l6_0 env H K:=by
 intro k
 induction k with
 | zero =>
  intro i env hi h17 h18 h9 h13 h14 h15 h16
  refine li_go hm l6_0.eq_1 ?_
  have e:i=out.length:=by omega
  subst e
  simp -implicitDefEqProofs[h17,h18]
  exact hexit _ (by simp[h9]) (by simp[h13]) (by simp[h14]) (by simp[h15]) (by simp[h16])
 | succ k ih =>
  intro i env hi h17 h18 h9 h13 h14 h15 h16
  refine li_go hm l6_0.eq_1 ?_
  have hlt:i<out.length:=by omega
  have hlt':(i:Int)<out.length:=by omega
  have hne:¬ out[i]=[98]:=fun e=>ho (e ▸ List.getElem_mem hlt)
  have hgi:(wds out)[i]'(by simpa using hlt)=st (B out[i]):=by simp[wds]
  have hb:(B out[i]).data.toList=out[i]:=by simp[B]
  simp -implicitDefEqProofs[h17,h18,hlt,hlt',hgi,hb,hne]
  refine⟨by omega,ih (i+1) _ (by omega) ?_ ?_ ?_ ?_ ?_ ?_ ?_⟩
  all_goals simp[h9,h13,h14,h15,h16,wrap_suc (show i<9223372036854775807 by omega)]
set_option maxRecDepth 4000 in
theorem ok6 {e:Ex} (he:e.lim) (a b c:Int):Ok Tryz.prog 6 [e.v,i64 a,i64 b,i64 c] [] (.ret (bl true)) []:=by
 obtain⟨x,hx,hX⟩:=ok24 a
 obtain⟨y,hy,hY⟩:=ok24 b
 obtain⟨z,hz,hZ⟩:=ok24 c
 have h7:=fun H=>ok7 e he H 120 (by decide) (by decide)
 have h23:=fun H=>ok23 e he H
 have hcn:=cntE e 120 (by decide)
 have hu:∀ n,e.v.under n=true:=fun n=>Ex.und_v n _
 generalize hs:sizE e 120=m at h7 hcn
 refine ok_WI hm Tryz.func6 c6 rfl fun hcl => ?_
 rw[show i6=.seq (IC.nth 0 i6) (.seq (IC.nth 1 i6) (.seq (IC.nth 2 i6) (.seq (IC.nth 3 i6) (.seq (IC.nth 4 i6) (.seq (IC.nth 5 i6) (IC.tl 6 i6))))))from rfl]
 generalize ht:IC.tl 6 i6=t6
 obtain⟨op,k,nm,l,p⟩:=e
 simp only[Ex.v,Ex.c]at h7 h23
 refine WI.seq (draw_ok hm) ?_
 simp -implicitDefEqProofs[IC.nth,i6,Ex.v,Ex.c]
 refine WI.seq (draw_ok hm) ?_
 simp -implicitDefEqProofs[IC.nth,i6]
 refine call_go (ok4f _) ?_
 simp -implicitDefEqProofs
 refine WI.seq (draw_ok hm) ?_
 by_cases hm1:120<m
 · simp -implicitDefEqProofs[IC.nth,i6]
   refine call_go (h7 _) ?_
   simp -implicitDefEqProofs[hm1]
   refine callq_off _ _ _ _ ?_
   simp -implicitDefEqProofs[r6]
   exact cv_fz (H:=[]) 4 hcl rfl (by simp)
 cases hf:formE (.mk op k nm l p)with
 | false =>
  rw[hf]at h23
  simp -implicitDefEqProofs[IC.nth,i6]
  refine call_go (h7 _) ?_
  simp -implicitDefEqProofs[hm1]
  refine callq_st (r:=bl false) (fun _=>by simpa[SV.strip]using h23 _) ?_
  simp -implicitDefEqProofs[r6]
  exact cv_fz (H:=[]) 4 hcl rfl (by simp)
 | true =>
 rw[hf]at h23
 simp -implicitDefEqProofs[IC.nth,i6]
 refine call_go (h7 _) ?_
 simp -implicitDefEqProofs[hm1]
 refine callq_st (r:=bl true) (fun _=>by simpa[SV.strip]using h23 _) ?_
 simp -implicitDefEqProofs
 have h18:=fun H=>ok18q (H:=H) (e:=.mk op k nm l p) (s:=[98]) hy (by have:=hgt_cnt (.mk op k nm l p); omega) (lim2_cnt _ (by omega))
 have hpc:=put_cnt [98] y (.mk op k nm l p)
 have hph:=hgt_cnt (putE [98] y (.mk op k nm l p))
 have hev:=put_ev (ns:=abcN) (ns':=acN) (vs:=[x,y,z]) (vs':=[x,z]) (s:=[98]) hy (by simp[lookF,abcN]) (fun t ht=>by
  have h1:¬ ([98]:List UInt8)=t:=fun e=>ht e.symm
  simp[lookF,abcN,acN,h1]) (.mk op k nm l p) hf
 have hfr:=put_free [98] y (.mk op k nm l p)
 have h9:=fun H=>ok9 (H:=H) (ns:=abcN) (vs:=[x,y,z]) (e:=.mk op k nm l p) (by have:=hgt_cnt (.mk op k nm l p); omega) (by decide)
 have h9x:=fun H=>ok9 (H:=H) (ns:=acN) (vs:=[x,z]) (e:=putE [98] y (.mk op k nm l p)) (by omega) (by decide)
 have h20:=fun H=>ok20p (H:=H) (e:=putE [98] y (.mk op k nm l p)) (by omega)
 have hup:∀ n,(putE [98] y (.mk op k nm l p)).vp.under n=true:=fun n=>Ex.und_vp n _
 have hle:=vp_le (putE [98] y (.mk op k nm l p))
 have r1:evalF abcN [x,y,z] (.mk op k nm l p)=evE abcN [x,y,z] (.mk op k nm l p):=by simp[evalF,abcN]
 have r2:evalF acN [x,z] (putE [98] y (.mk op k nm l p))=evE acN [x,z] (putE [98] y (.mk op k nm l p)):=by simp[evalF,acN]
 rw[r1,hev]at h9
 rw[r2]at h9x
 clear r1 r2 hev
 generalize evE acN [x,z] (putE [98] y (.mk op k nm l p))=r at h9 h9x
 generalize putE [98] y (.mk op k nm l p)=X at h18 h9x h20 hup hle hfr
 obtain⟨k0,n0,w0,hr⟩:∃ k n w,retV r=.ret (.tup [.agg [i64 k,i64 n],i64 w]):=by
  cases r with
  | ok v=>exact⟨v.1,v.2,0,rfl⟩
  | error x=>exact⟨0,0,x,rfl⟩
 rw[hr]at h9 h9x
 have h9y:∀ H,Ok Tryz.prog 9 [X.vp,.slc (wds acN) 2,.slc (ints [x,z]) 2] H (.ret (.tup [.agg [i64 k0,i64 n0],i64 w0])) H:=fun H=>Ok.le (leL.cons hle (leL.refl _)) (h9x H)
 clear h9x hle
 obtain⟨op',k',nm',l',p'⟩:=X
 simp only[Ex.v,Ex.c]at h9 h18
 simp only[Ex.vp,Ex.cp]at h9y h18 h20
 refine WI.seq (draw_ok hm) ?_
 simp -implicitDefEqProofs
 refine WI.seq (draw_ok hm) ?_
 simp -implicitDefEqProofs
 refine call_go (hX _) ?_
 simp -implicitDefEqProofs
 refine call_go (hY _) ?_
 simp -implicitDefEqProofs
 refine call_go (hZ _) ?_
 simp -implicitDefEqProofs
 refine WI.seq (draw_ok hm) ?_
 simp -implicitDefEqProofs
 refine callq_go (fun _=>h18 _) ?_
 simp -implicitDefEqProofs
 refine⟨okC_go (h18 _),?_⟩
 refine WI.tell (Tell.give (H0:=[]) (by intro i o h; simp at h) 1 1 (o:=⟨[st ⟨#[97]⟩,st ⟨#[98]⟩,st ⟨#[99]⟩],9,0,true⟩) rfl rfl) ?_
 simp -implicitDefEqProofs[AO.gv,AO.dead]
 refine WI.tell (Tell.give (H0:=[]) (by intro i o h; simp at h) 2 1 (o:=⟨[i64 x,i64 y,i64 z],3,0,true⟩) rfl rfl) ?_
 simp -implicitDefEqProofs[AO.gv,AO.dead]
 refine WI.of_X (draw_ok hm) ?_
 rw[←ht]
 simp -implicitDefEqProofs[IC.tl,i6,r6]
 refine call_go (h9 _) ?_
 simp -implicitDefEqProofs
 refine callq_go (fun _=>h9y _) ?_
 simp -implicitDefEqProofs
 refine⟨okC_go (h9y _),?_⟩
 refine call_goP (h20 _) ?_
 rintro o H' ⟨rfl,out,hol,ho,rfl⟩
 simp -implicitDefEqProofs
 refine loop6 (fun h=>hfr (ho _ h)) hol (fun env g9 g13 g14 g15 g16 => ?_) out.length 0 _ (by omega) ?_ ?_ rfl rfl rfl rfl rfl
 · simp -implicitDefEqProofs at g9 g13 g14 g15 g16
   simp -implicitDefEqProofs[g9,g13,g14,g15,g16]
   exact cv_fz (H:=[]) 4 hcl rfl (by simp)
 · simp
 · simp
end Go.Proofs.YtcejichidnlicaaGreatDoor
namespace Go.Proofs.YtcejichidnlicaaGreatDoor
open Go.Ab Go.ChangeShapes Go.WideShapes Go.ChangeAt Go.RowKit
def laid3 : List (String × DataW Unit) := [("errors.errorType", Rows.laid_errors_errorType)]
theorem own:ownKnob Tryz.prog.godebug=none:=by kernel_rfl
theorem laidOut:laidOutB Tryz.prog=true:=by kernel_rfl
theorem gE : Tryz.prog.globalNamed "errors.errorType" = some 0 := by kernel_rfl
theorem rtE : (Tryz.prog.cutTypes.find? (·.1 == "internal/reflectlite.rtype")).map (·.2) = some 153 := by kernel_rfl
theorem size:Tryz.prog.types.size=195:=by kernel_rfl
theorem oneRow:((List.range 195).filter fun t=>Tryz.prog.rowNamed t [101,114,114,111,114])=[117]:=by kernel_rfl
theorem door_met (os:Os) (args:Array Value):laidMetH Tryz.prog laid3 ((World.doorLaid Tryz.prog 400 os).forCall (fun _ _=>0) ⟨#[],args,[]⟩).memory :=
 laidMetH_of_parts3 (fuel:=8) (laidMet_of_run' 8 (by kernel_rfl) (by kernel_rfl)) (by kernel_rfl) (by kernel_rfl)
theorem gl_of {W:World} (h:laidMetH Tryz.prog laid3 W):(st0 W).GL:=by
 have h' : laidMet Tryz.prog [] W ∧ handlesMet Tryz.prog [("errors.errorType", Rows.laid_errors_errorType)] W := h
 obtain⟨_,hh⟩:=h'
 obtain⟨name,u,ty,e1,e2,e3,e4,e5⟩:=hh _ (List.mem_singleton.2 rfl)
 have en:name=[101,114,114,111,114]:=(Option.some.inj e1).symm
 subst en
 obtain rfl:=Option.some.inj (rtE.symm.trans e2)
 have hm:ty∈(List.range 195).filter fun t=>Tryz.prog.rowNamed t [101,114,114,111,114]:=List.mem_filter.2 ⟨List.mem_range.2 (by rw[←size]; exact e3),e4⟩
 rw[oneRow]at hm
 obtain rfl:=List.mem_singleton.1 hm
 have hh:typeHandle Tryz.prog 117=.pointer (some ⟨1,117,none⟩):=by kernel_rfl
 rw[hh]at e5
 have key:∀ (g:Nat) (nm:String) (cs:Array Value) (us:List Value),Tryz.prog.globalNamed nm=some g->W.var? Tryz.prog nm=some cs->cs.toList=us->us.all isNumV=true->(st0 W).Imm ⟨g,0,none⟩ us:=by
  intro g nm cs us h1 h2 h3 h4
  refine⟨fun j u hj => ?_,fun _=>rw0 W _,fun _ _=>.inr h4⟩
  have:=World.var?_cell h1 h2 j
  have e:((⟨g,0,none⟩:Addr).add j)=⟨g,j,none⟩:=by unfold Addr.add; split<;>simp_all
  rw[e]
  show W.cell? _=_
  rw[this,<- Array.getElem?_toList,h3]; exact hj
 have shp:∀ (g:Nat) (nm:String) (cs:Array Value) (us:List Value),Tryz.prog.globalNamed nm=some g->W.var? Tryz.prog nm=some cs->cs.toList=us->∃ T,(st0 W).w.shape? g=some (T,us.length):=by
  intro g nm cs us h1 h2 h3
  simp only[World.var?,h1,Option.bind_some]at h2
  split at h2
  · rename_i cs' T f hh
    cases h2
    refine⟨T,?_⟩
    show W.shape? g=_
    unfold World.shape?
    rw[hh,<- h3]
    simp
  · cases h2
 intro g us hg
 match g,hg with
 | 0,hg=>cases hg; exact⟨key 0 _ _ _ gE e5 rfl rfl,shp 0 _ _ _ gE e5 rfl⟩
end Go.Proofs.YtcejichidnlicaaGreatDoor
namespace Go.Proofs.YtcejichidnlicaaGreatDoor
open Go Go.Ab Go.ChangeShapes Go.WideShapes Go.ChangeAt Go.RowKit
theorem leaves_of_alone {P:Program} {last:Machine} {w:World} {t:Trace} (h:aloneAtReturn P last w t):leavingAtReturn P last w t:=by
 obtain⟨⟨h1,h2⟩,h3,h4⟩:=h
 refine⟨h3,⟨fun g hg=>⟨0,?_⟩,h2⟩,h4⟩
 unfold Machine.othersDone at h1
 have h5:=List.all_eq_true.1 h1 g hg
 show g.status=.finished
 exact beq_iff_eq.1 h5
theorem leaving_of_handed {a:Assume} {C:Checked} {os:Os} {f:FuncId} {r:Reach} {Pre:World->Array Value->Prop} {Post:World->Array Value->Value->World->Prop}
 (h:ReturnsInHanded a C os f r Pre Post):ReturnsInLeavingWide a C os f r Pre Post:=fun e =>
 ReturnsInOpen.mono (fun _ _ _ x=>leaves_of_alone x) (fun _ x=>x) (h e)
theorem tied_goes (Lk:Looks) {p:Pinned} {s:OpenSpec} {c:OpenClaim} (kinds:List LaidKind) (tests:Bool) (har:Bool×String) (lk:Bool)
 (hc:c.holds p s) (hw:c.wfByText s=true)
 (htie:c.laidByTextAt Lk p kinds tests)
 (hst:c.start=.entering) (hnb:c.noBlocks=false∧c.again=false) (hm:p.checked.prog.mainIs=some (har.1,har.2.toList)) (hn:(!har.1&&har.2.isEmpty && !lk)=false)
 (hl:∀ f fn,p.checked.prog.funcNamed c.func=some f->p.checked.prog.funcs[f]? = some fn->lk=p.checked.prog.looks []∧∀ (j:Nat) t,fn.params[j]? = some t->p.checked.prog.wantsStandIn t=false)
 (hg:true=c.goesBy p.checked.prog) :
 Claim7.holds p (.plain s) { stood:={ row:=c,standIns:=[],harness:=har,looks:=lk },kinds:=[],alts:=[],goes:=true,laidByText:=true,laidKinds:=kinds,laidTests:=tests,laidLooks:=Lk }:=by
 have h6:∀ r:OpenClaim,Claim7.isSixth { stood:={ row:=r,standIns:=[],harness:=har,looks:=lk },kinds:=[] }=false:=fun r=>by simpa[Claim7.isSixth]using hn
 exact⟨Claim7.tied_new_at Lk kinds tests (Claim7.new_of_sixth hc har lk hst hnb hm (h6 c) hl) hw,(fun D hD=>by cases hD),htie,(fun h=>by cases h),hg⟩
end Go.Proofs.YtcejichidnlicaaGreatDoor
namespace Go.Proofs.YtcejichidnlicaaGreatDoor
open Go Go.Ab
noncomputable def fieldT (t:TypeId):Option (List TypeId):=match Tryz.prog.underlying t with
 | some (.struct fs)=>some (fs.toList.map (·.type))
 | _=>none
theorem f24:fieldT 24=some [3,3,9,22,3]:=by kernel_rfl
theorem u3:Tryz.prog.underlying 3=some (.int .i64):=by kernel_rfl
theorem u9:Tryz.prog.underlying 9=some .string:=by kernel_rfl
theorem u22:Tryz.prog.underlying 22=some (.slice 24)
 := by kernel_rfl
theorem int_of {d:Dt} (h:d.ty Tryz.prog 3):∃ n,d=.int .i64 n:=by
 cases d with
 | int k n=>have:=h.1; rw[u3]at this; cases this; exact⟨n,rfl⟩
 | bool b=>have h:Tryz.prog.underlying 3=_:=h; rw[u3]at h; cases h
 | str s=>have h:=h.1; rw[u3]at h; cases h
 | sl l=>obtain⟨e,h,_⟩:=h; rw[u3]at h; cases h
 | agg l=>obtain⟨e,h,_⟩:=h; rw[u3]at h; cases h
theorem str_of {d:Dt} (h:d.ty Tryz.prog 9):∃ s,d=.str s∧s.size≤reachBytes:=by
 cases d with
 | int k n=>have:=h.1; rw[u9]at this; cases this
 | bool b=>have h:Tryz.prog.underlying 9=_:=h; rw[u9]at h; cases h
 | str s=>exact⟨s,rfl,h.2⟩
 | sl l=>obtain⟨e,h,_⟩:=h; rw[u9]at h; cases h
 | agg l=>obtain⟨e,h,_⟩:=h; rw[u9]at h; cases h
theorem sl_of {d:Dt} {t e:TypeId} (ht:Tryz.prog.underlying t=some (.slice e)) (h:d.ty Tryz.prog t):∃ l,d=.sl l∧l.length≤reachBytes∧∀ x∈l,x.ty Tryz.prog e:=by
 cases d with
 | int k n=>have:=h.1; rw[ht]at this; cases this
 | bool b=>have h:Tryz.prog.underlying t=_:=h; rw[ht]at h; cases h
 | str s=>have h:=h.1; rw[ht]at h; cases h
 | sl l=>obtain⟨e',h,h2,h3⟩:=h; rw[ht]at h; cases h; exact⟨l,rfl,h2,tyA_iff.1 h3⟩
 | agg l=>obtain⟨e,h,_⟩:=h; rw[ht]at h; cases h
theorem st_of {d:Dt} {t:TypeId} {ts:List TypeId} (ht:fieldT t=some ts) (h:d.ty Tryz.prog t):∃ l,d=.agg l∧Dt.tyL Tryz.prog l ts:=by
 unfold fieldT at ht
 cases d with
 | int k n=>have:=h.1; rw[this]at ht; cases ht
 | bool b=>have h:Tryz.prog.underlying t=_:=h; rw[h]at ht; cases ht
 | str s=>have h:=h.1; rw[h]at ht; cases ht
 | sl l=>obtain⟨e',h,h2,h3⟩:=h; rw[h]at ht; cases ht
 | agg l=>obtain⟨e,h,h2⟩:=h; rw[h]at ht; cases ht; exact⟨l,rfl,h2⟩
theorem ex_of:∀ (n:Nat) (d:Dt),SizeOf.sizeOf d<n->d.ty Tryz.prog 24->∃ e:Ex,d.cells=e.c∧d.sv=e.v∧e.lim∧e.nmB:=by
 intro n
 induction n with
 | zero=>intro d h; omega
 | succ n ih =>
  intro d hs h
  obtain⟨l,rfl,hl⟩:=st_of f24 h
  match l,hl with
  | [d1,d2,d3,d4,d5],hl =>
   obtain⟨h1,h2,h3,h4,h5,_⟩:=hl
   obtain⟨op,rfl⟩:=int_of h1
   obtain⟨m,rfl⟩:=int_of h2
   obtain⟨s,rfl,hsz⟩:=str_of h3
   obtain⟨zs,rfl,hlen,has⟩:=sl_of u22 h4
   obtain⟨p,rfl⟩:=int_of h5
   have key:∀ zs2:List Dt,SizeOf.sizeOf zs2≤SizeOf.sizeOf zs->(∀ x∈zs2,x.ty Tryz.prog 24)->∃ es:List Ex,Dt.cellsL zs2=Ex.cL es∧es.length=zs2.length∧Ex.limL es∧Ex.nmBL es:=by
    intro zs2
    induction zs2 with
    | nil=>intro _ _; exact⟨[],rfl,rfl,by unfold Ex.limL; trivial,by unfold Ex.nmBL; trivial⟩
    | cons x r ihr =>
     intro hsz2 hty
     have e1:SizeOf.sizeOf (x::r)=1+SizeOf.sizeOf x+SizeOf.sizeOf r:=rfl
     obtain⟨es,g1,g2,g3,g4⟩:=ihr (by omega) (fun y hy=>hty y (by simp[hy]))
     obtain⟨e,k1,_,k3,k4⟩:=ih x (by
      simp at hs
      omega) (hty x (by simp))
     exact⟨e::es,by simp only[Dt.cellsL,Ex.cL,k1,g1],by simp[g2],by unfold Ex.limL; exact⟨k3,g3⟩,by unfold Ex.nmBL; exact⟨k4,g4⟩⟩
   obtain⟨es,g1,g2,g3,g4⟩:=key zs (Nat.le_refl _) has
   refine⟨.mk op m s.data.toList es p,?_,?_,?_,?_⟩
   · simp only[Dt.cells,Dt.cellsL,g1,g2,Ex.c]
     rw[←B_of s]; rfl
   · simp only[Dt.sv,Dt.cells,Dt.cellsL,g1,g2,Ex.v,Ex.c]
     rw[←B_of s]; rfl
   · unfold Ex.lim
     refine⟨?_,g3⟩
     rw[g2]; unfold reachBytes at hlen; omega
   · unfold Ex.nmB
     refine⟨?_,g4⟩
     have:s.data.toList.length=s.size:=Array.length_toList
     rw[this]; unfold reachBytes at hsz; omega
end Go.Proofs.YtcejichidnlicaaGreatDoor
namespace Go.Proofs.YtcejichidnlicaaGreatDoor
open Go Go.Ab
theorem law6:∀ dts,Dt.tyL Tryz.prog dts [24,3,3,3]->Ok Tryz.prog 6 (dts.map Dt.sv) [] (.ret (bl true)) []:=by
 intro dts h
 match dts,h with
 | [d1,d2,d3,d4],h =>
  obtain⟨h1,h2,h3,h4,_⟩:=h
  obtain⟨e,_,k2,k3,k4⟩:=ex_of _ d1 (Nat.lt_succ_self _) h1
  obtain⟨n2,rfl⟩:=int_of h2
  obtain⟨n3,rfl⟩:=int_of h3
  obtain⟨n4,rfl⟩:=int_of h4
  simp only[List.map_cons,List.map_nil,k2]
  exact ok6 k3 n2 n3 n4
end Go.Proofs.YtcejichidnlicaaGreatDoor
