/-
  Steps of the proof: contracts of functions and plain facts that the statement rests on.
-/
import Derived.Test.YtcejichidnlicaaGreatDoorPart1
set_option linter.all false
namespace Go.Proofs.YtcejichidnlicaaGreatDoor
open Go.Ab
variable [FrEnv]
def wds (l:List (List UInt8)):List SV:=l.map fun s=>st (B s)
@[simp] theorem wds_len (l:List (List UInt8)):(wds l).length=l.length:=by simp[wds]
structure IsS (H:List AO) (x:SV) (l:List (List UInt8)):Prop where
 vd:x.vd=true
 ug:x.ug=x
 sl:x.isSl=true
 cell:x.isCell=true
 sz:x.szIs 1=true
 len:x.slen=l.length
 und:x.under H.length=true
 row:(x.row H).take l.length=wds l
 flat:x.flat=[x]
namespace IsS
variable [FrEnv]
variable {H:List AO} {x:SV} {l:List (List UInt8)}
theorem app (h:IsS H x l) (L:List AO):IsS (H++L) x l :=
 ⟨h.vd,h.ug,h.sl,h.cell,h.sz,h.len,SV.under_mono (by simp) x h.und,by rw[row_app L h.und]; exact h.row,h.flat⟩
theorem slc (H:List AO) (l:List (List UInt8)):IsS H (.slc (wds l) l.length) l :=
 ⟨rfl,rfl,rfl,rfl,rfl,rfl,by simp[SV.under,wds,SV.underL_iff],by simp[SV.row,<- wds_len],rfl⟩
theorem rowlen (h:IsS H x l):l.length≤(x.row H).length:=by
 have:=congrArg List.length h.row
 simp at this; omega
theorem ld (h:IsS H x l) {k:Nat} (hk:k<l.length):((x.row H).drop k).headD .any=st (B (l[k]'hk)):=by
 have h2:((x.row H).take l.length)[k]? = (wds l)[k]? := by rw[h.row]
 rw[List.getElem?_take_of_lt hk]at h2
 rw[List.headD_eq_head?_getD,List.head?_drop,h2]
 simp[wds,hk]
theorem okA (h:IsS H x l) (L:List AO) {k:Nat} (hk:k<l.length):ldok (H++L) (.ptr x k) 1:=by
 have:=(h.app L).rowlen
 simp only[ldok,at_ptr,List.length_drop]; omega
theorem vA (h:IsS H x l) (L:List AO) {k:Nat} (hk:k<l.length):ldv (H++L) (.ptr x k)=st (B (l[k]'hk)):=by
 have:=(h.app L).ld hk
 simp only[ldv,at_ptr,this]
theorem own1 {H L:List AO} {T:TypeId} {l:List (List UInt8)} {k n ver:Nat} (h:L[k]? = some ⟨wds l,T,ver,true⟩) (hn:n=l.length):IsS (H++L) (.own (H.length+k) 0 n 1 ver) l:=by
 subst hn
 refine⟨rfl,rfl,rfl,rfl,rfl,rfl,?_,?_,rfl⟩
 · have:k<L.length:=getElem?_lt h
   simp; omega
 · simp only[SV.row,objCells_new,List.drop_zero]
   unfold objCells
   rw[h]
   simp[←wds_len]
end IsS
end Go.Proofs.YtcejichidnlicaaGreatDoor
namespace Go.Proofs.YtcejichidnlicaaGreatDoor
open Go.Ab
variable [FrEnv]
def binK:List Value:=[.int .i64 5,.int .i64 6,.int .i64 7,.int .i64 8,.int .i64 9,.int .i64 10,.int .i64 11,.int .i64 12,.int .i64 13,.int .i64 14,.int .i64 15,.int .i64 18,.int .i64 19]
def binV:List SV:=[.fn (.func 40) [] [],.fn (.func 41) [] [],.fn (.func 42) [] [],.fn (.func 43) [] [],.fn (.func 44) [] [],.fn (.func 45) [] [],.fn (.func 47) [] [],.fn (.func 48) [] [],.fn (.func 49) [] [],.fn (.func 50) [] [],.fn (.func 51) [] [],.fn (.func 52) [] [],.fn (.func 53) [] []]
def refV (x:SV):SV:=.ptr (.slc [x] 0) 0
def macV (ns:List (List UInt8)) (vs:List Int):SV:=.ptr (.slc [.fn (.func 39) [] [refV (.slc (wds ns) ns.length),refV (.slc (ints vs) vs.length)],.mpf binK binV] 0) 0
def lookF:List (List UInt8)->List Int->List UInt8->Option Int
 | n::ns,v::vs,s=>if n=s then some v else lookF ns vs s
 | _,_,_=>none
section
variable {H:List AO}
theorem ok25 (ns:List (List UInt8)) (vs:List Int):Ok Tryz.prog 25 [.slc (wds ns) ns.length,.slc (ints vs) vs.length] H (.ret (macV ns vs)) H:=by
 refine ok_fn hm Tryz.func25 c25 (by simp[SV.under,SV.underL_iff,wds,ints]) fun hcl => ?_
 simp -implicitDefEqProofs[i25,r25]
 refine s_mup_go (x:=([],[])) (by simp[SV.mapOf]) rfl rfl rfl ?_
 simp -implicitDefEqProofs[msetK,msetV,SV.key,vkeq]
 refine s_mup_go (x:=([.int .i64 5],[.fn (.func 40) [] []])) (by simp[SV.mapOf]) rfl rfl rfl ?_
 simp -implicitDefEqProofs[msetK,msetV,SV.key,vkeq]
 refine s_mup_go (x:=([.int .i64 5,.int .i64 6],[.fn (.func 40) [] [],.fn (.func 41) [] []])) (by simp[SV.mapOf]) rfl rfl rfl ?_
 simp -implicitDefEqProofs[msetK,msetV,SV.key,vkeq]
 refine s_mup_go (x:=([.int .i64 5,.int .i64 6,.int .i64 7],[.fn (.func 40) [] [],.fn (.func 41) [] [],.fn (.func 42) [] []])) (by simp[SV.mapOf]) rfl rfl rfl ?_
 simp -implicitDefEqProofs[msetK,msetV,SV.key,vkeq]
 refine s_mup_go (x:=([.int .i64 5,.int .i64 6,.int .i64 7,.int .i64 8],[.fn (.func 40) [] [],.fn (.func 41) [] [],.fn (.func 42) [] [],.fn (.func 43) [] []])) (by simp[SV.mapOf]) rfl rfl rfl ?_
 simp -implicitDefEqProofs[msetK,msetV,SV.key,vkeq]
 refine s_mup_go (x:=([.int .i64 5,.int .i64 6,.int .i64 7,.int .i64 8,.int .i64 9],[.fn (.func 40) [] [],.fn (.func 41) [] [],.fn (.func 42) [] [],.fn (.func 43) [] [],.fn (.func 44) [] []])) (by simp[SV.mapOf]) rfl rfl rfl ?_
 simp -implicitDefEqProofs[msetK,msetV,SV.key,vkeq]
 refine s_mup_go (x:=([.int .i64 5,.int .i64 6,.int .i64 7,.int .i64 8,.int .i64 9,.int .i64 10],[.fn (.func 40) [] [],.fn (.func 41) [] [],.fn (.func 42) [] [],.fn (.func 43) [] [],.fn (.func 44) [] [],.fn (.func 45) [] []])) (by simp[SV.mapOf]) rfl rfl rfl ?_
 simp -implicitDefEqProofs[msetK,msetV,SV.key,vkeq]
 refine s_mup_go (x:=([.int .i64 5,.int .i64 6,.int .i64 7,.int .i64 8,.int .i64 9,.int .i64 10,.int .i64 11],[.fn (.func 40) [] [],.fn (.func 41) [] [],.fn (.func 42) [] [],.fn (.func 43) [] [],.fn (.func 44) [] [],.fn (.func 45) [] [],.fn (.func 47) [] []])) (by simp[SV.mapOf]) rfl rfl rfl ?_
 simp -implicitDefEqProofs[msetK,msetV,SV.key,vkeq]
 refine s_mup_go (x:=([.int .i64 5,.int .i64 6,.int .i64 7,.int .i64 8,.int .i64 9,.int .i64 10,.int .i64 11,.int .i64 12],[.fn (.func 40) [] [],.fn (.func 41) [] [],.fn (.func 42) [] [],.fn (.func 43) [] [],.fn (.func 44) [] [],.fn (.func 45) [] [],.fn (.func 47) [] [],.fn (.func 48) [] []])) (by simp[SV.mapOf]) rfl rfl rfl ?_
 simp -implicitDefEqProofs[msetK,msetV,SV.key,vkeq]
 refine s_mup_go (x:=([.int .i64 5,.int .i64 6,.int .i64 7,.int .i64 8,.int .i64 9,.int .i64 10,.int .i64 11,.int .i64 12,.int .i64 13],[.fn (.func 40) [] [],.fn (.func 41) [] [],.fn (.func 42) [] [],.fn (.func 43) [] [],.fn (.func 44) [] [],.fn (.func 45) [] [],.fn (.func 47) [] [],.fn (.func 48) [] [],.fn (.func 49) [] []])) (by simp[SV.mapOf]) rfl rfl rfl ?_
 simp -implicitDefEqProofs[msetK,msetV,SV.key,vkeq]
 refine s_mup_go (x:=([.int .i64 5,.int .i64 6,.int .i64 7,.int .i64 8,.int .i64 9,.int .i64 10,.int .i64 11,.int .i64 12,.int .i64 13,.int .i64 14],[.fn (.func 40) [] [],.fn (.func 41) [] [],.fn (.func 42) [] [],.fn (.func 43) [] [],.fn (.func 44) [] [],.fn (.func 45) [] [],.fn (.func 47) [] [],.fn (.func 48) [] [],.fn (.func 49) [] [],.fn (.func 50) [] []])) (by simp[SV.mapOf]) rfl rfl rfl ?_
 simp -implicitDefEqProofs[msetK,msetV,SV.key,vkeq]
 refine s_mup_go (x:=([.int .i64 5,.int .i64 6,.int .i64 7,.int .i64 8,.int .i64 9,.int .i64 10,.int .i64 11,.int .i64 12,.int .i64 13,.int .i64 14,.int .i64 15],[.fn (.func 40) [] [],.fn (.func 41) [] [],.fn (.func 42) [] [],.fn (.func 43) [] [],.fn (.func 44) [] [],.fn (.func 45) [] [],.fn (.func 47) [] [],.fn (.func 48) [] [],.fn (.func 49) [] [],.fn (.func 50) [] [],.fn (.func 51) [] []])) (by simp[SV.mapOf]) rfl rfl rfl ?_
 simp -implicitDefEqProofs[msetK,msetV,SV.key,vkeq]
 refine s_mup_go (x:=([.int .i64 5,.int .i64 6,.int .i64 7,.int .i64 8,.int .i64 9,.int .i64 10,.int .i64 11,.int .i64 12,.int .i64 13,.int .i64 14,.int .i64 15,.int .i64 18],[.fn (.func 40) [] [],.fn (.func 41) [] [],.fn (.func 42) [] [],.fn (.func 43) [] [],.fn (.func 44) [] [],.fn (.func 45) [] [],.fn (.func 47) [] [],.fn (.func 48) [] [],.fn (.func 49) [] [],.fn (.func 50) [] [],.fn (.func 51) [] [],.fn (.func 52) [] []])) (by simp[SV.mapOf]) rfl rfl rfl ?_
 simp -implicitDefEqProofs[msetK,msetV,SV.key,vkeq]
 exact cv_fz 6 hcl rfl (by simp[macV,refV,binK,binV,wds,fz_fn])
theorem loop39 {ns:List (List UInt8)} {vs:List Int} (hl:ns.length=vs.length) (hb:ns.length<4611686018427387904) {nm:List UInt8} {N:Nat} {K:XE->Env->List AO->Prop}
 (hret:∀ v,lookF ns vs nm=some v->∀ env,env.get 4=i64 v->env.get 5=bl true->K .ret env H) (hexit:lookF ns vs nm=none->∀ env,K (.exit 0) env H) :
 ∀ (m i:Nat) (env:Env),i+m=ns.length->lookF (ns.drop i) (vs.drop i) nm=lookF ns vs nm->env.get 0=st (B nm)->env.get 2=refV (.slc (ints vs) vs.length)->env.get 8=.slc (wds ns) ns.length->env.get 9=i64 ns.length->env.get 10=i64 i->LI Tryz.prog N drawB l39_0 env H K:=by
 intro m
 induction m with
 | zero =>
  intro i env hi hq h0 h2 h8 h9 h10
  refine li_go hm l39_0.eq_1 ?_
  have e:i=ns.length:=by omega
  subst e
  rw[List.drop_length]at hq
  simp -implicitDefEqProofs[h9,h10]
  exact hexit hq.symm _
 | succ m ih =>
  intro i env hi hq h0 h2 h8 h9 h10
  refine li_go hm l39_0.eq_1 ?_
  have hlt:i<ns.length:=by omega
  have hlt2:i<vs.length:=by omega
  have hlt':(i:Int)<ns.length:=by omega
  have hlt2':(i:Int)<vs.length:=by omega
  have hg:∀ h,(wds ns)[i]'(h)=st (B ns[i]):=fun h=>by simp[wds]
  rw[List.drop_eq_getElem_cons hlt,List.drop_eq_getElem_cons hlt2,lookF]at hq
  generalize ns[i]=n at hq hg
  by_cases hn:n=nm
  · rw[if_pos hn]at hq
    subst hn
    simp -implicitDefEqProofs[h0,h2,h8,h9,h10,hlt,hlt',hlt2,hlt2',hg,refV]
    refine⟨by omega,by omega,?_⟩
    refine hret vs[i] hq.symm _ ?_ ?_<;>simp
  · rw[if_neg hn]at hq
    simp -implicitDefEqProofs[h0,h2,h8,h9,h10,hlt,hlt',hlt2,hlt2',hg,refV,hn]
    refine⟨by omega,?_⟩
    refine ih (i+1) _ (by omega) hq ?_ ?_ ?_ ?_ ?_
    all_goals simp[refV,wrap_suc (show i<9223372036854775807 by omega)]
def lookV (o:Option Int):SV:=match o with
 | some v=>.tup [i64 v,bl true]
 | none=>.tup [i64 0,bl false]
theorem ok39 {ns:List (List UInt8)} {vs:List Int} (hl:ns.length=vs.length) (hb:ns.length<4611686018427387904) (nm:List UInt8) :
 Ok Tryz.prog 39 [st (B nm),refV (.slc (wds ns) ns.length),refV (.slc (ints vs) vs.length)] H (.ret (lookV (lookF ns vs nm))) H:=by
 refine ok_fn hm Tryz.func39 c39 (by simp[refV,SV.under,SV.underL,SV.underL_iff,wds,ints]) fun hcl => ?_
 simp -implicitDefEqProofs[i39,r39,refV]
 refine loop39 hl hb (nm:=nm) (fun v hv env h4 h5 => ?_) (fun hv env => ?_) ns.length 0 _ (by omega) rfl ?_ ?_ ?_ ?_ ?_
 · rw[hv]
   simp -implicitDefEqProofs[h4,h5,lookV]
   exact cv_id
 · rw[hv]
   simp -implicitDefEqProofs[lookV]
   exact cv_id
 all_goals simp[refV]
end
end Go.Proofs.YtcejichidnlicaaGreatDoor
namespace Go.Proofs.YtcejichidnlicaaGreatDoor
open Go.Ab
variable [FrEnv]
def binP (op a b:Int):Int :=
 if op=5 then mulP a b else if op=6 then a.fdiv b else if op=7 then a-b*a.fdiv b else if op=8 then a+b else if op=9 then a-b
 else if op=10 then tru (a=b)else if op=11 then tru (a≠b)else if op=12 then tru (a<b)else if op=13 then tru (a≤b)else if op=14 then tru (b<a)else if op=15 then tru (b≤a)
 else if op=18 then min a b else max a b
def binN (op:Int):Nat:=if op≤10 then(op+35).toNat else if op≤15 then(op+36).toNat else(op+34).toNat
def isBin (op:Int):Prop:=(5≤op∧op≤15)∨op=18∨op=19
section
variable {H:List AO}
theorem fmul_bd {a b:Int} (ha:Sm a) (hb:Sm b) (h0:b≠0) : -4000000000000≤b*a.fdiv b∧b*a.fdiv b≤4000000000000:=by
 have h1:=Int.mul_tdiv_add_tmod a b
 have h2:(a.tmod b).natAbs<b.natAbs:=by rw[Int.natAbs_tmod]; exact Nat.mod_lt _ (by omega)
 obtain⟨a1,a2⟩:=ha
 obtain⟨b1,b2⟩:=hb
 rw[fdiv_of h0]
 split
 · rw[Int.mul_sub]; omega
 · omega
theorem bin_ok {op a b:Int} (hop:isBin op) (ha:Sm a) (hb:Sm b) (h0:op=6∨op=7->b≠0):Ok Tryz.prog (binN op) [i64 a,i64 b] H (.ret (i64 (binP op a b))) H:=by
 have ha':=ha
 have hb':=hb
 obtain⟨a1,a2⟩:=ha'
 obtain⟨b1,b2⟩:=hb'
 have hc:op=5∨op=6∨op=7∨op=8∨op=9∨op=10∨op=11∨op=12∨op=13∨op=14∨op=15∨op=18∨op=19:=by unfold isBin at hop; omega
 rcases hc with rfl | rfl | rfl | rfl | rfl | rfl | rfl | rfl | rfl | rfl | rfl | rfl | rfl
 · exact ok40 ha hb
 · exact ok41 ha (h0 (.inl rfl))
 · show Ok Tryz.prog 42 _ _ _ _
   have hb0:=h0 (.inr rfl)
   have hm2:=fmul_bd ha hb hb0
   have w1:IntKind.i64.wrap (b*a.fdiv b)=b*a.fdiv b:=wrap_id (by omega) (by omega)
   have w2:IntKind.i64.wrap (a-b*a.fdiv b)=a-b*a.fdiv b:=wrap_id (by omega) (by omega)
   have h41:=fun H=>ok41 (H:=H) ha hb0
   have hp:binP 7 a b=a-b*a.fdiv b:=rfl
   rw[hp]
   generalize a.fdiv b=q at *
   refine ok_fn hm Tryz.func42 c42 (by simp) fun hcl => ?_
   simp -implicitDefEqProofs[i42,r42]
   refine call_go (h41 _) ?_
   simp -implicitDefEqProofs[w1,w2]
   exact cv_id
 · refine ok_fn hm Tryz.func43 c43 (by simp) fun hcl => ?_
   have w:IntKind.i64.wrap (a+b)=a+b:=wrap_id (by omega) (by omega)
   simp -implicitDefEqProofs[i43,r43,w,binP]; exact cv_id
 · refine ok_fn hm Tryz.func44 c44 (by simp) fun hcl => ?_
   have w:IntKind.i64.wrap (a-b)=a-b:=wrap_id (by omega) (by omega)
   simp -implicitDefEqProofs[i44,r44,w,binP]; exact cv_id
 · refine ok_fn hm Tryz.func45 c45 (by simp) fun hcl => ?_
   simp -implicitDefEqProofs[i45,r45,binP]
   refine call_go (ok46 _) ?_
   simp -implicitDefEqProofs; exact cv_id
 · refine ok_fn hm Tryz.func47 c47 (by simp) fun hcl => ?_
   simp -implicitDefEqProofs[i47,r47,binP]
   refine call_go (ok46 _) ?_
   simp -implicitDefEqProofs; exact cv_id
 · refine ok_fn hm Tryz.func48 c48 (by simp) fun hcl => ?_
   simp -implicitDefEqProofs[i48,r48,binP]
   refine call_go (ok46 _) ?_
   simp -implicitDefEqProofs; exact cv_id
 · refine ok_fn hm Tryz.func49 c49 (by simp) fun hcl => ?_
   simp -implicitDefEqProofs[i49,r49,binP]
   refine call_go (ok46 _) ?_
   simp -implicitDefEqProofs; exact cv_id
 · refine ok_fn hm Tryz.func50 c50 (by simp) fun hcl => ?_
   simp -implicitDefEqProofs[i50,r50,binP]
   refine call_go (ok46 _) ?_
   simp -implicitDefEqProofs; exact cv_id
 · refine ok_fn hm Tryz.func51 c51 (by simp) fun hcl => ?_
   simp -implicitDefEqProofs[i51,r51,binP]
   refine call_go (ok46 _) ?_
   simp -implicitDefEqProofs; exact cv_id
 · refine ok_fn hm Tryz.func52 c52 (by simp) fun hcl => ?_
   simp -implicitDefEqProofs[i52,r52,binP]; exact cv_id
 · refine ok_fn hm Tryz.func53 c53 (by simp) fun hcl => ?_
   simp -implicitDefEqProofs[i53,r53,binP]; exact cv_id
end
def ofF (k:Int):Vr->Except Int Int
 | .error e=>.error e
 | .ok v=>if v.1≠k then .error 10 else .ok v.2
def outI:Except Int Int->Out
 | .ok n=>.ret (i64 n)
 | .error e=>.pan (.ifc 31 (i64 e))
def outB:Except Int Int->Out
 | .ok n=>.ret (bl (decide (n=1)))
 | .error e=>.pan (.ifc 31 (i64 e))
def wAt (w:List Vr) (i:Nat):Vr:=w.getD i (.error 3)
structure Opr (G:List AO) (kf:Nat) (cap:List SV) (w:List Vr):Prop where
 ok:∀ (L:List AO) (i:Nat),i<w.length->Ok Tryz.prog kf (i64 i::cap) (G++L) (outV (wAt w i)) (G++L)
 und:SV.underL G.length cap=true
theorem Opr.app {G:List AO} {kf:Nat} {cap:List SV} {w:List Vr} (h:Opr G kf cap w) (L:List AO):Opr (G++L) kf cap w :=
 ⟨fun L2 i hi=>by rw[List.append_assoc]; exact h.ok _ i hi,SV.underL_mono (by simp) _ h.und⟩
section
variable {G:List AO} {kf:Nat} {cap:List SV} {w:List Vr} {j i:Nat}
theorem ok81 (hj:G[j]? = some ⟨[.fn (.func kf) [] cap],76,0,true⟩) (ho:Opr G kf cap w) (hi:i<w.length) (k:Int):Ok Tryz.prog 81 [i64 i,i64 k,rp j] G (outI (ofF k (wAt w i))) G:=by
 have hjl:=getElem?_lt hj
 have e1:objCells G j 0=[.fn (.func kf) [] cap]:=objCells_of (o:=⟨[.fn (.func kf) [] cap],76,0,true⟩) hj rfl
 have hok:=ho.ok [] i hi
 rw[List.append_nil]at hok
 refine ok_fn hm Tryz.func81 c81 (by simp[rp,hjl]) fun hcl => ?_
 simp -implicitDefEqProofs[i81,r81,rp,e1]
 refine call_of (a:=[]) (b:=cap) (by simpa using hok) ?_
 generalize wAt w i=v
 cases v with
 | error e =>
  simp -implicitDefEqProofs[outV,outI,ofF]
  exact cv_id
 | ok v =>
  by_cases hk:v.1=k
  · simp -implicitDefEqProofs[outV,outI,ofF,hk]
    exact cv_fz 2 hcl rfl rfl
  · simp -implicitDefEqProofs[outV,outI,ofF,hk]
    exact cv_fz 2 hcl rfl rfl
theorem ok82 (hj:G[j]? = some ⟨[.fn (.func kf) [] cap],76,0,true⟩) {q:Nat} (hq:G[q]? = some ⟨[.fn (.func 81) [] [rp j]],47,0,true⟩) (ho:Opr G kf cap w) (hi:i<w.length):Ok Tryz.prog 82 [i64 i,rp q] G (outB (ofF 2 (wAt w i))) G:=by
 have hql:=getElem?_lt hq
 have e1:objCells G q 0=[.fn (.func 81) [] [rp j]]:=objCells_of (o:=⟨[.fn (.func 81) [] [rp j]],47,0,true⟩) hq rfl
 refine ok_fn hm Tryz.func82 c82 (by simp[rp,hql]) fun hcl => ?_
 simp -implicitDefEqProofs[i82,r82,rp,e1]
 refine call_of (a:=[]) (b:=[rp j]) (ok81 hj ho hi 2) ?_
 generalize ofF 2 (wAt w i)=v
 cases v with
 | error e =>
  simp -implicitDefEqProofs[outB,outI]
  exact cv_id
 | ok v =>
  simp -implicitDefEqProofs[outB,outI]
  exact cv_id
def appF (op:Int) (w:List Vr):Vr :=
 if op=3 then match ofF 1 (wAt w 0)with
  | .error e=>.error e
  | .ok a=>numF (-a)
 else if op=4 then match ofF 2 (wAt w 0)with
  | .error e=>.error e
  | .ok a=>boolF (!decide (a=1))
 else if op=16 then match ofF 2 (wAt w 0)with
  | .error e=>.error e
  | .ok a=>if a=1 then match ofF 2 (wAt w 1)with
   | .error e=>.error e
   | .ok b=>boolF (decide (b=1))
   else boolF false
 else if op=17 then match ofF 2 (wAt w 0)with
  | .error e=>.error e
  | .ok a=>if a=1 then boolF true else match ofF 2 (wAt w 1)with
   | .error e=>.error e
   | .ok b=>boolF (decide (b=1))
 else if op=20 then match ofF 2 (wAt w 0)with
  | .error e=>.error e
  | .ok a=>if a=1 then wAt w 1 else wAt w 2
 else match ofF 1 (wAt w 0)with
  | .error e=>.error e
  | .ok a=>match ofF 1 (wAt w 1)with
   | .error e=>.error e
   | .ok b=>if b=0∧(op=6∨op=7)then .error 6 else if 10≤op∧op≤15 then boolF (decide (binP op a b=1))else numF (binP op a b)
theorem lkm_bin {op:Int} (h:isBin op):lkm (.int .i64 op) binK binV=some (.fn (.func (binN op)) [] []):=by
 have hc:op=5∨op=6∨op=7∨op=8∨op=9∨op=10∨op=11∨op=12∨op=13∨op=14∨op=15∨op=18∨op=19:=by unfold isBin at h; omega
 rcases hc with rfl | rfl | rfl | rfl | rfl | rfl | rfl | rfl | rfl | rfl | rfl | rfl | rfl<;>rfl
theorem ok59 (ns:List (List UInt8)) (vs:List Int) {op:Int} (ho:Opr G kf cap w) (hop:3≤op∧op≤20) (hw:(w.length:Int)=opN op) (hsm:∀ i n,wAt w i=.ok (1,n)->Sm n) (hn:True) :
 Ok Tryz.prog 59 [macV ns vs,i64 op,.fn (.func kf) [] cap] G (outV (appF op w)) G:=by
 refine ok_fn hm Tryz.func59 c59 (by simp[macV,refV,SV.under,SV.underL,SV.underL_iff,wds,ints,binV,ho.und]) fun hcl => ?_
 generalize hv:appF op w=v
 unfold appF at hv
 have sm1:∀ i a,ofF 1 (wAt w i)=.ok a->Sm a:=by
  intro i a h
  cases hx:wAt w i with
  | error e=>rw[hx]at h; cases h
  | ok x =>
   rw[hx]at h
   unfold ofF at h
   simp only at h
   split at h
   · cases h
   · rename_i hk
     obtain⟨x1,x2⟩:=x
     have hk:=Decidable.not_not.1 hk
     simp only at hk h
     subst hk
     have:=Except.ok.inj h
     subst this
     exact hsm i _ hx
 have hj:(G++[⟨[.fn (.func kf) [] cap],76,0,true⟩,⟨[i64 0,i64 0],30,0,true⟩,⟨[.fn (.func 81) [] [rp G.length]],47,0,true⟩])[G.length]? = some ⟨[.fn (.func kf) [] cap],76,0,true⟩:=by simp
 have hq:(G++[⟨[.fn (.func kf) [] cap],76,0,true⟩,⟨[i64 0,i64 0],30,0,true⟩,⟨[.fn (.func 81) [] [rp G.length]],47,0,true⟩])[G.length+2]? = some ⟨[.fn (.func 81) [] [rp G.length]],47,0,true⟩:=by simp
 have ho':=ho.app [⟨[.fn (.func kf) [] cap],76,0,true⟩,⟨[i64 0,i64 0],30,0,true⟩,⟨[.fn (.func 81) [] [rp G.length]],47,0,true⟩]
 have c81':=fun(i:Nat) (hi:i<w.length) (k:Int)=>ok81 hj ho' hi k
 have c82':=fun(i:Nat) (hi:i<w.length)=>ok82 hj hq ho' hi
 have c76:=fun(i:Nat) (hi:i<w.length)=>ho.ok [⟨[.fn (.func kf) [] cap],76,0,true⟩,⟨[i64 0,i64 0],30,0,true⟩,⟨[.fn (.func 81) [] [rp G.length]],47,0,true⟩] i hi
 clear hj hq ho'
 simp -implicitDefEqProofs[i59,r59]
 by_cases h3:op=3
 · subst h3
   have hl:0<w.length:=by simp[opN]at hw; omega
   rw[if_pos rfl]at hv ⊢
   refine call_of (a:=[]) (b:=[rp G.length]) (c81' 0 hl 1) ?_
   have hs:=sm1 0
   generalize ofF 1 (wAt w 0)=x at hv hs
   cases x with
   | error e =>
    subst hv
    simp -implicitDefEqProofs[outV,outI]
    exact cv_fz 6 hcl rfl rfl
   | ok a =>
    have ha:=hs a rfl
    have hw:IntKind.i64.wrap (-a) = -a:=by unfold Sm at ha; exact wrap_id (by omega) (by omega)
    subst hv
    simp only[outI]
    simp -implicitDefEqProofs[hw]
    refine call_go (ok58 _) ?_
    generalize numF (-a)=y
    cases y with
    | error e =>
     simp -implicitDefEqProofs[outV]
     exact cv_fz 6 hcl rfl rfl
    | ok v =>
     simp -implicitDefEqProofs[outV]
     exact cv_fz 6 hcl rfl rfl
 by_cases h4:op=4
 · subst h4
   have hl:0<w.length:=by simp[opN]at hw; omega
   rw[if_neg (by decide),if_pos rfl]at hv
   rw[if_neg (by decide),if_pos rfl]
   refine call_of (a:=[]) (b:=[rp (G.length+2)]) (c82' 0 hl) ?_
   generalize ofF 2 (wAt w 0)=x at hv
   cases x with
   | error e =>
    subst hv
    simp -implicitDefEqProofs[outV,outB]
    exact cv_fz 6 hcl rfl rfl
   | ok a =>
    subst hv
    simp -implicitDefEqProofs[outB]
    refine call_go (ok83 _) ?_
    simp -implicitDefEqProofs[outV,boolF]
    exact cv_fz 6 hcl rfl rfl
 have h2:opN op≤1->op=3∨op=4:=by unfold opN; intro h; split at h<;>(try split at h)<;>(try split at h)<;>(try split at h)<;>omega
 have hl0:0<w.length:=by by_cases hh:opN op≤1<;>omega
 have hl1:1<w.length:=by by_cases hh:opN op≤1<;>omega
 rw[if_neg h3,if_neg h4]at hv
 rw[if_neg h3,if_neg h4]
 by_cases h16:op=16
 · subst h16
   rw[if_pos rfl]at hv
   rw[if_pos rfl]
   refine call_of (a:=[]) (b:=[rp (G.length+2)]) (c82' 0 hl0) ?_
   generalize ofF 2 (wAt w 0)=x at hv
   cases x with
   | error e =>
    subst hv
    simp -implicitDefEqProofs[outV,outB]
    exact cv_fz 6 hcl rfl rfl
   | ok a =>
    by_cases ha:a=1
    · simp only[ha,if_true]at hv
      simp -implicitDefEqProofs[outB,ha]
      refine call_of (a:=[]) (b:=[rp (G.length+2)]) (c82' 1 hl1) ?_
      generalize ofF 2 (wAt w 1)=x at hv
      cases x with
      | error e =>
       subst hv
       simp -implicitDefEqProofs[outV,outB]
       exact cv_fz 6 hcl rfl rfl
      | ok b =>
       subst hv
       simp -implicitDefEqProofs[outB]
       refine call_go (ok83 _) ?_
       simp -implicitDefEqProofs[outV,boolF]
       exact cv_fz 6 hcl rfl rfl
    · simp only[ha,if_false]at hv
      subst hv
      simp -implicitDefEqProofs[outB,ha]
      refine call_go (ok83 _) ?_
      simp -implicitDefEqProofs[outV,boolF]
      exact cv_fz 6 hcl rfl rfl
 rw[if_neg h16]at hv
 rw[if_neg h16]
 by_cases h17:op=17
 · subst h17
   rw[if_pos rfl]at hv
   rw[if_pos rfl]
   refine call_of (a:=[]) (b:=[rp (G.length+2)]) (c82' 0 hl0) ?_
   generalize ofF 2 (wAt w 0)=x at hv
   cases x with
   | error e =>
    subst hv
    simp -implicitDefEqProofs[outV,outB]
    exact cv_fz 6 hcl rfl rfl
   | ok a =>
    by_cases ha:a=1
    · simp only[ha,if_true]at hv
      subst hv
      simp -implicitDefEqProofs[outB,ha]
      refine call_go (ok83 _) ?_
      simp -implicitDefEqProofs[outV,boolF]
      exact cv_fz 6 hcl rfl rfl
    · simp only[ha,if_false]at hv
      simp -implicitDefEqProofs[outB,ha]
      refine call_of (a:=[]) (b:=[rp (G.length+2)]) (c82' 1 hl1) ?_
      generalize ofF 2 (wAt w 1)=x at hv
      cases x with
      | error e =>
       subst hv
       simp -implicitDefEqProofs[outV,outB]
       exact cv_fz 6 hcl rfl rfl
      | ok b =>
       subst hv
       simp -implicitDefEqProofs[outB]
       refine call_go (ok83 _) ?_
       simp -implicitDefEqProofs[outV,boolF]
       exact cv_fz 6 hcl rfl rfl
 rw[if_neg h17]at hv
 rw[if_neg h17]
 by_cases h20:op=20
 · subst h20
   have hl2:2<w.length:=by simp[opN]at hw; omega
   rw[if_pos rfl]at hv
   rw[if_pos rfl]
   refine call_of (a:=[]) (b:=[rp (G.length+2)]) (c82' 0 hl0) ?_
   generalize ofF 2 (wAt w 0)=x at hv
   cases x with
   | error e =>
    subst hv
    simp -implicitDefEqProofs[outV,outB]
    exact cv_fz 6 hcl rfl rfl
   | ok a =>
    have k1:=c76 1 hl1
    have k2:=c76 2 hl2
    by_cases ha:a=1
    · simp only[ha,if_true]at hv
      rw[hv]at k1
      simp -implicitDefEqProofs[outB,ha]
      refine call_of (a:=[]) (b:=cap) k1 ?_
      cases v with
      | error e =>
       simp -implicitDefEqProofs[outV]
       exact cv_fz 6 hcl rfl rfl
      | ok v =>
       simp -implicitDefEqProofs[outV]
       exact cv_fz 6 hcl rfl rfl
    · simp only[ha,if_false]at hv
      rw[hv]at k2
      simp -implicitDefEqProofs[outB,ha]
      refine call_of (a:=[]) (b:=cap) k2 ?_
      cases v with
      | error e =>
       simp -implicitDefEqProofs[outV]
       exact cv_fz 6 hcl rfl rfl
      | ok v =>
       simp -implicitDefEqProofs[outV]
       exact cv_fz 6 hcl rfl rfl
 rw[if_neg h20]at hv
 rw[if_neg h20]
 have hbin:isBin op:=by unfold isBin; omega
 have hlk:=lkm_bin hbin
 simp -implicitDefEqProofs
 refine call_of (a:=[]) (b:=[rp G.length]) (c81' 0 hl0 1) ?_
 have hs:=sm1 0
 generalize ofF 1 (wAt w 0)=x at hv hs
 cases x with
 | error e =>
  subst hv
  simp -implicitDefEqProofs[outV,outI]
  exact cv_fz 6 hcl rfl rfl
 | ok a =>
  have ha:=hs a rfl
  simp -implicitDefEqProofs[outI]
  refine call_of (a:=[]) (b:=[rp G.length]) (c81' 1 hl1 1) ?_
  have hs:=sm1 1
  generalize ofF 1 (wAt w 1)=x at hv hs
  cases x with
  | error e =>
   subst hv
   simp -implicitDefEqProofs[outV,outI]
   exact cv_fz 6 hcl rfl rfl
  | ok b =>
   have hb:=hs b rfl
   simp only at hv
   by_cases hz:b=0∧(op=6∨op=7)
   · rw[if_pos hz]at hv
     subst hv
     obtain⟨hb0,h67⟩:=hz
     rcases h67 with h6 | h6<;>(simp -implicitDefEqProofs[outV,outI,hb0,h6]; exact cv_fz 6 hcl rfl rfl)
   · rw[if_neg hz]at hv
     have hbo:=fun H=>bin_ok (H:=H) hbin ha hb (fun h67 hb0=>hz ⟨hb0,h67⟩)
     generalize binP op a b=q at hv hbo
     have b0:b=0->(decide (op=6))=false∧(decide (op=7))=false:=fun hb0=>⟨by simp; exact fun h6=>hz ⟨hb0,.inl h6⟩,by simp; exact fun h7=>hz ⟨hb0,.inr h7⟩⟩
     by_cases hbz:b=0
     · obtain⟨b6,b7⟩:=b0 hbz
       subst hbz
       simp -implicitDefEqProofs[outI,b6,b7,macV,hlk]
       refine⟨by decide,?_⟩
       refine call_go (hbo _) ?_
       by_cases h10:10≤op
       · by_cases h15:op≤15
         · rw[if_pos ⟨h10,h15⟩]at hv
           subst hv
           simp -implicitDefEqProofs[h10,h15]
           refine call_go (ok83 _) ?_
           simp -implicitDefEqProofs[outV,boolF]
           exact cv_fz 6 hcl rfl rfl
         · rw[if_neg (fun hh=>h15 hh.2)]at hv
           subst hv
           simp -implicitDefEqProofs[h10,h15]
           refine call_go (ok58 _) ?_
           generalize numF q=y
           cases y with
           | error e =>
            simp -implicitDefEqProofs[outV]
            exact cv_fz 6 hcl rfl rfl
           | ok v =>
            simp -implicitDefEqProofs[outV]
            exact cv_fz 6 hcl rfl rfl
       · rw[if_neg (fun hh=>h10 hh.1)]at hv
         subst hv
         simp -implicitDefEqProofs[h10]
         refine call_go (ok58 _) ?_
         generalize numF q=y
         cases y with
         | error e =>
          simp -implicitDefEqProofs[outV]
          exact cv_fz 6 hcl rfl rfl
         | ok v =>
          simp -implicitDefEqProofs[outV]
          exact cv_fz 6 hcl rfl rfl
     · simp -implicitDefEqProofs[outI,hbz,macV,hlk]
       refine⟨by decide,?_⟩
       refine call_go (hbo _) ?_
       by_cases h10:10≤op
       · by_cases h15:op≤15
         · rw[if_pos ⟨h10,h15⟩]at hv
           subst hv
           simp -implicitDefEqProofs[h10,h15]
           refine call_go (ok83 _) ?_
           simp -implicitDefEqProofs[outV,boolF]
           exact cv_fz 6 hcl rfl rfl
         · rw[if_neg (fun hh=>h15 hh.2)]at hv
           subst hv
           simp -implicitDefEqProofs[h10,h15]
           refine call_go (ok58 _) ?_
           generalize numF q=y
           cases y with
           | error e =>
            simp -implicitDefEqProofs[outV]
            exact cv_fz 6 hcl rfl rfl
           | ok v =>
            simp -implicitDefEqProofs[outV]
            exact cv_fz 6 hcl rfl rfl
       · rw[if_neg (fun hh=>h10 hh.1)]at hv
         subst hv
         simp -implicitDefEqProofs[h10]
         refine call_go (ok58 _) ?_
         generalize numF q=y
         cases y with
         | error e =>
          simp -implicitDefEqProofs[outV]
          exact cv_fz 6 hcl rfl rfl
         | ok v =>
          simp -implicitDefEqProofs[outV]
          exact cv_fz 6 hcl rfl rfl
end
end Go.Proofs.YtcejichidnlicaaGreatDoor
namespace Go.Proofs.YtcejichidnlicaaGreatDoor
open Go.Ab
variable [FrEnv]
def opTab:List (Int×List Int×Int×Bool):=[(3,[1],1,false),(4,[2],2,false),(5,[1,1],1,false),(6,[1,1],1,false),(7,[1,1],1,false),(8,[1,1],1,false),(9,[1,1],1,false),(18,[1,1],1,false),(19,[1,1],1,false),
 (10,[1,1],2,false),(11,[1,1],2,false),(12,[1,1],2,false),(13,[1,1],2,false),(14,[1,1],2,false),(15,[1,1],2,false),(16,[2,2],2,false),(17,[2,2],2,false),(20,[0,0,0],0,true)]
def fnM (b:Bool):SV:=if b then .fn (.func 111) [] []else .val .nilFunc
def opV (x:List Int×Int×Bool):SV:=.agg [.slc (ints x.1) x.1.length,i64 x.2.1,fnM x.2.2]
def opsK:List Value:=opTab.map fun x=>.int .i64 x.1
def opsW:List SV:=opTab.map fun x=>opV x.2
def opsM:SV:=.mpf opsK opsW
def namesV (vs:List (List UInt8)):SV:=.slc (vs.map fun s=>st (B s)) vs.length
def typV (vs:List (List UInt8)):SV:=.agg [varsM vs,opsM]
section
variable {H:List AO}
def t1O:AO:=⟨[.val (.map none),.val (.map none)],114,0,true⟩
def vmO (l:List (List UInt8)):AO:=⟨.mk (sks l)::trues l.length,66,0,false⟩
theorem loop97 {vs:List (List UInt8)} {x:SV} (hx:IsS H x vs) (hl:vs.length<4611686018427387904) {N:Nat} {K:XE->Env->List AO->Prop}
 (hexit:∀ env,env.get 2=.ptr (.own H.length 0 0 0 0) 0->env.get 3=.ptr (.own (H.length+3) 0 0 0 0) 0->K (.exit 0) env (H++[t1O,vmO (nubS [] vs),mpO 112 ([],[]),⟨[.mp (H.length+1) 0,.mp (H.length+2) 0],114,0,true⟩])) :
 ∀ (n i:Nat) (l:List (List UInt8)) (env:Env),i+n=vs.length->nubS l (vs.drop i)=nubS [] vs->env.get 2=.ptr (.own H.length 0 0 0 0) 0->env.get 3=.ptr (.own (H.length+3) 0 0 0 0) 0->env.get 12=x->env.get 13=i64 vs.length->env.get 14=i64 i →
  LI Tryz.prog N drawB l97_0 env (H++[t1O,vmO l,mpO 112 ([],[]),⟨[.mp (H.length+1) 0,.mp (H.length+2) 0],114,0,true⟩]) K:=by
 intro n
 induction n with
 | zero =>
  intro i l env hi hr h2 h3 h12 h13 h14
  refine li_go hm l97_0.eq_1 ?_
  have e:i=vs.length:=by omega
  subst e
  rw[List.drop_length]at hr
  have hr:l=_:=hr
  subst hr
  simp -implicitDefEqProofs[h2,h3,h12,h13,h14]
  exact hexit _ (by simp[h2]) (by simp[h3])
 | succ n ih =>
  intro i l env hi hr h2 h3 h12 h13 h14
  refine li_go hm l97_0.eq_1 ?_
  have hlt:i<vs.length:=by omega
  have hlt':(i:Int)<vs.length:=by omega
  rw[List.drop_eq_getElem_cons hlt,nubS]at hr
  have mo:SV.mapOf (H++[t1O,vmO l,mpO 112 ([],[]),⟨[.mp (H.length+1) 0,.mp (H.length+2) 0],114,0,true⟩]) (.mp (H.length+1) 0)=some (sks l,trues l.length):=by
   have:(H++[t1O,vmO l,mpO 112 ([],[]),⟨[.mp (H.length+1) 0,.mp (H.length+2) 0],114,0,true⟩])[H.length+1]? = some (vmO l):=by simp
   simp only[SV.mapOf,this]; simp[vmO]
  simp -implicitDefEqProofs[h2,h3,h12,h13,h14,hlt,hlt',hx.vd,hx.ug,hx.sl,hx.cell,hx.len,hx.vA _ hlt,hx.okA _ hlt]
  refine s_mup_go (x:=(sks l,trues l.length)) mo rfl rfl (sks_all l) ?_
  have e1:=setK_s vs[i] l
  have e2:=setV_s vs[i] l
  simp -implicitDefEqProofs[h2,h3,h12,h13,h14,vmO,e1,e2]
  refine ih (i+1) (addS l vs[i]) _ (by omega) hr ?_ ?_ ?_ ?_ ?_
  all_goals simp[h2,h3,h12,h13,h14,wrap_suc (show i<9223372036854775807 by omega)]
theorem ok97x {vs:List (List UInt8)} {x:SV} (hx:IsS H x vs) (hl:vs.length<4611686018427387904):Ok Tryz.prog 97 [x] H (.ret (typV vs)) H:=by
 refine ok_fn hm Tryz.func97 c97 (by simp) fun hcl => ?_
 simp -implicitDefEqProofs[i97,r97,hx.vd,hx.ug,hx.sl,hx.cell,hx.len]
 refine LI.cong (H':=H++[t1O,vmO [],mpO 112 ([],[]),⟨[.mp (H.length+1) 0,.mp (H.length+2) 0],114,0,true⟩]) (by simp[t1O,vmO,mpO,sks,trues]) ?_
 refine loop97 hx hl (fun env h2 h3 => ?_) vs.length 0 [] _ (by omega) rfl ?_ ?_ ?_ ?_ ?_
 · generalize hnl:nubS [] vs=l at *
   have kf:∀ (v:SV) (l:List Int) (m:MapV),iK m->iK (l.foldl (setM v) m):=by
    intro v l
    induction l with
    | nil=>exact fun m h=>h
    | cons x r ih=>exact fun m h=>ih _ (iK_set h)
   simp -implicitDefEqProofs[h2,h3]
   refine call_of (a:=[]) (b:=[.ptr (.own (H.length+3) 0 0 0 0) 0]) (ok110 (k:=H.length+5) (j:=H.length+3) (a:=H.length+1) (b:=H.length+2) (l:=[3]) (tk:=.own (H.length+4) 0 1 1 0) (mf:=.val .nilFunc) (ow:=1) (m:=([],[])) (by decide) (by simp[ints]) (by simp) (by simp) (by omega) (by omega) rfl rfl rfl ⟨rfl,by simp[SV.under,SV.underL],by simp[SV.under,SV.underL]⟩) ?_
   generalize hm1:([3]:List Int).foldl (setM (.agg [.own (H.length+4) 0 1 1 0,i64 1,.val .nilFunc])) ([],[])=m1
   have k1:iK m1:=by rw[←hm1]; exact kf _ _ _ rfl
   have u1:SV.underL (H.length+6) m1.2=true:=by rw[←hm1]; exact und_fold (by simp[SV.under,SV.underL]) _ _ rfl
   simp -implicitDefEqProofs[h2,h3]
   refine call_of (a:=[]) (b:=[.ptr (.own (H.length+3) 0 0 0 0) 0]) (ok110 (k:=H.length+7) (j:=H.length+3) (a:=H.length+1) (b:=H.length+2) (l:=[4]) (tk:=.own (H.length+6) 0 1 1 0) (mf:=.val .nilFunc) (ow:=2) (m:=m1) (by decide) (by simp[ints]) (by simp) (by simp) (by omega) (by omega) rfl rfl k1 ⟨SV.underL_mono (by simp) _ u1,by simp[SV.under,SV.underL],by simp[SV.under,SV.underL]⟩) ?_
   generalize hm2:([4]:List Int).foldl (setM (.agg [.own (H.length+6) 0 1 1 0,i64 2,.val .nilFunc])) m1=m2
   have k2:iK m2:=by rw[←hm2]; exact kf _ _ _ k1
   have u2:SV.underL (H.length+8) m2.2=true:=by rw[←hm2]; exact und_fold (by simp[SV.under,SV.underL]) _ _ (SV.underL_mono (by omega) _ u1)
   simp -implicitDefEqProofs[h2,h3]
   refine call_of (a:=[]) (b:=[.ptr (.own (H.length+3) 0 0 0 0) 0]) (ok110 (k:=H.length+10) (j:=H.length+3) (a:=H.length+1) (b:=H.length+2) (l:=[5,6,7,8,9,18,19]) (tk:=.own (H.length+8) 0 2 1 0) (mf:=.val .nilFunc) (ow:=1) (m:=m2) (by decide) (by simp[ints]) (by simp) (by simp) (by omega) (by omega) rfl rfl k2 ⟨SV.underL_mono (by simp) _ u2,by simp[SV.under,SV.underL],by simp[SV.under,SV.underL]⟩) ?_
   generalize hm3:([5,6,7,8,9,18,19]:List Int).foldl (setM (.agg [.own (H.length+8) 0 2 1 0,i64 1,.val .nilFunc])) m2=m3
   have k3:iK m3:=by rw[←hm3]; exact kf _ _ _ k2
   have u3:SV.underL (H.length+11) m3.2=true:=by rw[←hm3]; exact und_fold (by simp[SV.under,SV.underL]) _ _ (SV.underL_mono (by omega) _ u2)
   simp -implicitDefEqProofs[h2,h3]
   refine call_of (a:=[]) (b:=[.ptr (.own (H.length+3) 0 0 0 0) 0]) (ok110 (k:=H.length+11) (j:=H.length+3) (a:=H.length+1) (b:=H.length+2) (l:=[10,11,12,13,14,15]) (tk:=.own (H.length+8) 0 2 1 0) (mf:=.val .nilFunc) (ow:=2) (m:=m3) (by decide) (by simp[ints]) (by simp) (by simp) (by omega) (by omega) rfl rfl k3 ⟨SV.underL_mono (by simp) _ u3,by simp[SV.under,SV.underL],by simp[SV.under,SV.underL]⟩) ?_
   generalize hm4:([10,11,12,13,14,15]:List Int).foldl (setM (.agg [.own (H.length+8) 0 2 1 0,i64 2,.val .nilFunc])) m3=m4
   have k4:iK m4:=by rw[←hm4]; exact kf _ _ _ k3
   have u4:SV.underL (H.length+12) m4.2=true:=by rw[←hm4]; exact und_fold (by simp[SV.under,SV.underL]) _ _ (SV.underL_mono (by omega) _ u3)
   simp -implicitDefEqProofs[h2,h3]
   refine call_of (a:=[]) (b:=[.ptr (.own (H.length+3) 0 0 0 0) 0]) (ok110 (k:=H.length+12) (j:=H.length+3) (a:=H.length+1) (b:=H.length+2) (l:=[16,17]) (tk:=.own (H.length+9) 0 2 1 0) (mf:=.val .nilFunc) (ow:=2) (m:=m4) (by decide) (by simp[ints]) (by simp) (by simp) (by omega) (by omega) rfl rfl k4 ⟨SV.underL_mono (by simp) _ u4,by simp[SV.under,SV.underL],by simp[SV.under,SV.underL]⟩) ?_
   generalize hm5:([16,17]:List Int).foldl (setM (.agg [.own (H.length+9) 0 2 1 0,i64 2,.val .nilFunc])) m4=m5
   have k5:iK m5:=by rw[←hm5]; exact kf _ _ _ k4
   have u5:SV.underL (H.length+13) m5.2=true:=by rw[←hm5]; exact und_fold (by simp[SV.under,SV.underL]) _ _ (SV.underL_mono (by omega) _ u4)
   simp -implicitDefEqProofs[h2,h3]
   refine call_of (a:=[]) (b:=[.ptr (.own (H.length+3) 0 0 0 0) 0]) (ok110 (k:=H.length+14) (j:=H.length+3) (a:=H.length+1) (b:=H.length+2) (l:=[20]) (tk:=.own (H.length+13) 0 3 1 0) (mf:=.fn (.func 111) [] []) (ow:=0) (m:=m5) (by decide) (by simp[ints]) (by simp) (by simp) (by omega) (by omega) rfl rfl k5 ⟨SV.underL_mono (by simp) _ u5,by simp[SV.under,SV.underL],by simp[SV.under,SV.underL]⟩) ?_
   generalize hm6:([20]:List Int).foldl (setM (.agg [.own (H.length+13) 0 3 1 0,i64 0,.fn (.func 111) [] []])) m5=m6
   have k6:iK m6:=by rw[←hm6]; exact kf _ _ _ k5
   have u6:SV.underL (H.length+15) m6.2=true:=by rw[←hm6]; exact und_fold (by simp[SV.under,SV.underL]) _ _ (SV.underL_mono (by omega) _ u5)
   simp -implicitDefEqProofs[h2,h3,t1O]
   refine cv_fz 6 hcl rfl ?_
   simp[typV,varsM,opsM,opsK,opsW,vmO,mpO,map_fz_under _ _ _ _ (trues_und _ _)]
   refine⟨⟨by rw[hnl],by rw[hnl]⟩,?_,?_⟩
   all_goals
    subst hm6 hm5 hm4 hm3 hm2 hm1
    simp[setM,msetK,msetV,vkeq,opTab,opV,fnM,ints]
 all_goals simp[namesV]
end
end Go.Proofs.YtcejichidnlicaaGreatDoor
namespace Go.Proofs.YtcejichidnlicaaGreatDoor
open Go.Ab
variable [FrEnv]
def opOf (op:Int):Option (List Int×Int×Bool):=(opTab.find? fun x=>x.1=op).map (·.2)
def Ex.at:Ex->Int
 | .mk _ _ _ _ p=>p
def Ex.op:Ex->Int
 | .mk op _ _ _ _=>op
def takesOf (o:List Int×Int×Bool) (ks:List Int):List Int:=if o.2.2 then [2,ks.getD 1 0,ks.getD 1 0]else o.1
def ownOf (o:List Int×Int×Bool) (ks:List Int):Int:=if o.2.2 then ks.getD 1 0 else o.2.1
def chkT (own:Int):List Int->List Int->List Ex->Int×Int×Int
 | t::ts,k::ks,e::l=>if k≠t then(0,10,e.at)else chkT own ts ks l
 | _,_,_=>(own,0,0)
mutual
def tyE (vs:List (List UInt8)):Ex->Int×Int×Int
 | .mk op _ nm l p =>
  match opOf op with
  | none=>if op=1∨op=2 then(if l.length≠0 then(0,3,p)else if op=2∧nm∉vs then(0,7,p)else(1,0,0))else(0,3,p)
  | some o=>if l.length≠o.1.length then(0,3,p)else
   match tyL vs l with
   | .error f=>(0,f)
   | .ok ks=>chkT (ownOf o ks) (takesOf o ks) ks l
def tyL (vs:List (List UInt8)):List Ex->Except (Int×Int) (List Int)
 | []=>.ok []
 | e::r=>if(tyE vs e).2.1≠0 then .error (tyE vs e).2 else
  match tyL vs r with
  | .error f=>.error f
  | .ok ks=>.ok ((tyE vs e).1::ks)
end
mutual
def Ex.hgt:Ex->Nat
 | .mk _ _ _ l _=>Ex.hgtL l+1
def Ex.hgtL:List Ex->Nat
 | []=>0
 | e::r=>max e.hgt (Ex.hgtL r)
end
theorem lkm_i {α:Type} (f:α->SV) (k:Int):∀ tab:List (Int×α),lkm (.int .i64 k) (tab.map fun x=>.int .i64 x.1) (tab.map fun x=>f x.2)=((tab.find? fun x=>x.1=k).map (·.2)).map f
 | []=>by simp[lkm]
 | x::r=>by
  simp only[List.map_cons,lkm,vkeq,List.find?_cons]
  by_cases h:k=x.1
  · subst h; simp
  · have h2:¬ x.1=k:=fun e=>h e.symm
    simp only[h,decide_false,Bool.false_eq_true,if_false,h2]
    exact lkm_i f k r
theorem iK_tab {α:Type} (tab:List (Int×α)):∀ v∈(tab.map fun x=>Value.int .i64 x.1),(KK.i .i64).is v=true:=by
 intro v hv; rw[List.mem_map]at hv; obtain⟨x,_,rfl⟩:=hv; rfl
section
variable {H:List AO}
theorem ok111 {k v:Nat} {a b c:Int} (ho:H[k]? = some ⟨[i64 a,i64 b,i64 c],3,v,true⟩):Ok Tryz.prog 111 [.own k 0 3 1 v] H (.ret (.tup [.slc [i64 2,i64 b,i64 b] 3,i64 b])) H:=by
 have hk:=getElem?_lt ho
 have e1:objCells H k v=[i64 a,i64 b,i64 c]:=objCells_of (o:=⟨[i64 a,i64 b,i64 c],3,v,true⟩) ho rfl
 refine ok_fn hm Tryz.func111 c111 (by simp) fun hcl => ?_
 have e2:∀ L,objCells (H++L) k v=[i64 a,i64 b,i64 c]:=fun L=>by rw[objCells_app L hk,e1]
 simp -implicitDefEqProofs[i111,r111,e1,e2]
 refine cv_fz 3 hcl rfl ?_
 simp
end
theorem opOf_none {op:Int} (h:opOf op=none):lkm (.int .i64 op) opsK opsW=none:=by
 unfold opsK opsW; rw[lkm_i opV op opTab]; unfold opOf at h; rw[h]; rfl
theorem opOf_some {op:Int} {o:List Int×Int×Bool} (h:opOf op=some o):lkm (.int .i64 op) opsK opsW=some (opV o):=by
 unfold opsK opsW; rw[lkm_i opV op opTab]; unfold opOf at h; rw[h]; rfl
theorem opsK_all:∀ v∈opsK,(KK.i .i64).is v=true:=iK_tab opTab
@[simp] theorem slen_nil:(SV.val (.slice none 0 0)).slen=0:=rfl
@[simp] theorem isSl_nil:(SV.val (.slice none 0 0)).isSl=true:=rfl
@[simp] theorem isFn_fn (f:Fn) (a b:List SV):(SV.fn f a b).isFn=true:=rfl
@[simp] theorem fnNil_fn (f:Fn) (a b:List SV):(SV.fn f a b).fnNil=false:=rfl
@[simp] theorem isFn_nil:(SV.val .nilFunc).isFn=true:=rfl
@[simp] theorem fnNil_nil:(SV.val .nilFunc).fnNil=true:=rfl
theorem opOf_plain {op:Int} {o:List Int×Int×Bool} (h:opOf op=some o):op≠1∧op≠2:=by
 constructor
 · rintro rfl; have h1:opOf 1=none:=by decide
   rw[h1]at h; cases h
 · rintro rfl; have h1:opOf 2=none:=by decide
   rw[h1]at h; cases h
theorem opOf_len {op:Int} {o:List Int×Int×Bool} (h:opOf op=some o):o.1.length≤3∧(o.2.2=true->o.1.length=3):=by
 unfold opOf at h
 rw[Option.map_eq_some_iff]at h
 obtain⟨x,h1,rfl⟩:=h
 have h2:∀ x∈opTab,x.2.1.length≤3∧(x.2.2.2=true->x.2.1.length=3):=by decide
 exact h2 x (List.mem_of_find?_eq_some h1)
theorem errV_und (n:Nat) (e p:Int):(errV e p).under n=true:=by
 unfold errV; split<;>rfl
@[simp] theorem errV_fz (n:Nat) (ks:List Nat) (L:List AO) (d:Nat) (e p:Int):SV.fz n ks L (d+1) (errV e p)=errV e p:=fz_under (errV_und n e p)
theorem errV_0 (p:Int):errV 0 p=.val .nilIface:=rfl
section
variable {H:List AO} {vs:List (List UInt8)} {rest:List SV} {j:Nat} {T:TypeId}
def exO (e:Ex):AO:=⟨e.c,24,0,true⟩
def oO (o:List Int×Int×Bool):AO:=⟨[.slc (ints o.1) o.1.length,i64 o.2.1,fnM o.2.2],127,0,true⟩
def kO (ks:List Int):AO:=⟨ints ks,3,ks.length,true⟩
theorem exL_get {l:List Ex} {i:Nat} (h:i<l.length):((Ex.cL l).drop (i*5)).take 5=l[i].c:=by
 rw[exL_rws,rws_at Ex.c_len h,List.take_left' (by simp)]
theorem loop98_0 {l:List Ex} (hty:H[j]? = some (tyO (varsM vs) opsM rest T)) {depth:Nat} (hd:depth<100000) (hl:l.length≤3) (hIH:∀ e∈l,∀ H,H[j]? = some (tyO (varsM vs) opsM rest T)->Ok Tryz.prog 98 [rp j,e.v,i64 ((depth+1:Nat):Int)] H (.ret (.tup [i64 (tyE vs e).1,errV (tyE vs e).2.1 (tyE vs e).2.2])) H)
 {A:AO} {B:AO} {N:Nat} {K:XE->Env->List AO->Prop} {res:Except (Int×Int) (List Int)}
 (hret:∀ f,res=.error f->f.1≠0->∀ env G,env.get 6=i64 0->env.get 7=errV f.1 f.2->K .ret env (H++A::B::G))
 (hexit:∀ ks,res=.ok ks->ks.length=l.length->∀ env G,env.get 4=.ptr (.own H.length 0 0 0 0) 0->env.get 8=.ptr (.own (H.length+1) 0 0 0 0) 0->env.get 11=.own (H.length+2) 0 ks.length 1 ks.length->K (.exit 0) env (H++A::B::kO ks::G)) :
 ∀ (m i:Nat) (ks:List Int) (G:List AO) (env:Env),i+m=l.length->ks.length=i->(match tyL vs (l.drop i)with | .error f=>.error f | .ok r=>.ok (ks++r))=res->env.get 0=rp j->env.get 2=i64 depth →
  env.get 4=.ptr (.own H.length 0 0 0 0) 0->env.get 8=.ptr (.own (H.length+1) 0 0 0 0) 0->env.get 11=.own (H.length+2) 0 ks.length 1 ks.length->env.get 82=.slc (Ex.cL l) l.length->env.get 83=i64 l.length->env.get 84=i64 i →
  LI Tryz.prog N drawB l98_0 env (H++A::B::kO ks::G) K:=by
 intro m
 induction m with
 | zero =>
  intro i ks G env hi hk hr h0 h2 h4 h8 h11 h82 h83 h84
  refine li_go hm l98_0.eq_1 ?_
  have e:i=l.length:=by omega
  subst e
  rw[List.drop_length]at hr
  simp only[tyL,List.append_nil]at hr
  simp -implicitDefEqProofs[h0,h2,h4,h8,h11,h82,h83,h84]
  refine hexit ks hr.symm hk _ G ?_ ?_ ?_<;>simp[h4,h8,h11]
 | succ m ih =>
  intro i ks G env hi hk hr h0 h2 h4 h8 h11 h82 h83 h84
  refine li_go hm l98_0.eq_1 ?_
  have hlt:i<l.length:=by omega
  have hlt':(i:Int)<l.length:=by omega
  have hg:=exL_get hlt
  have hcl:=exL_len l
  have w1:IntKind.i64.wrap ((depth:Int)+1)=((depth+1:Nat):Int):=wrap_succ (by omega)
  rw[List.drop_eq_getElem_cons hlt,tyL]at hr
  have hIH':=fun L=>hIH l[i] (List.getElem_mem hlt) (H++L) (get_app_l hty L)
  simp -implicitDefEqProofs[h0,h2,h4,h8,h11,h82,h83,h84,hlt,hlt',hg,hcl]
  refine⟨by omega,call_go (by rw[w1]; exact hIH' _) ?_⟩
  by_cases he:(tyE vs l[i]).2.1=0
  · rw[if_neg (by simp[he])]at hr
    have hev:errV (tyE vs l[i]).2.1 (tyE vs l[i]).2.2=.val .nilIface:=by rw[he]; rfl
    rw[hev]
    simp -implicitDefEqProofs[h0,h2,h4,h8,h11,h82,h83,h84,kO]
    refine⟨by omega,by omega,?_⟩
    have hkl:(ks++[(tyE vs l[i]).1]).length=ks.length+1:=by simp
    refine LI.cong ?_ (ih (i+1) (ks++[(tyE vs l[i]).1]) (G++[exO l[i],⟨[i64 (tyE vs l[i]).1],3,0,true⟩]) _ (by omega) (by omega) ?_ ?_ ?_ ?_ ?_ ?_ ?_ ?_ ?_)
    · simp[kO,exO,ints]
    · rw[←hr]
      cases tyL vs (l.drop (i+1))<;>simp
    all_goals simp[h0,h2,h4,h8,h82,h83,hkl,wrap_suc (show i<9223372036854775807 by omega)]
  · rw[if_pos he]at hr
    have hev:=errV_of he (tyE vs l[i]).2.2
    rw[hev]
    simp -implicitDefEqProofs[h0,h2,h4,h8,h11,h82,h83,h84]
    refine hret _ hr.symm he _ _ ?_ ?_
    · simp
    · simp[hev]
theorem exL_at {l:List Ex} {i:Nat} (h:i<l.length):(Ex.cL l)[i*5+4]? = some (i64 l[i].at):=by
 rw[exL_rws,rws_get Ex.c_len h (by omega)]
 cases l[i]; rfl
theorem loop98_1 {l:List Ex} {ks ts:List Int} {own:Int} (hl:l.length≤3) (hkl:ks.length=l.length) (htl:ts.length=l.length) {op k:Int} {nm:List UInt8} {p:Int} {v:Nat} {Z:AO} {N:Nat} {K:XE->Env->List AO->Prop} {res:Int×Int×Int}
 (hret:res.2.1=10->res.1=0->∀ env G,env.get 6=i64 0->env.get 7=errV res.2.1 res.2.2->K .ret env (H++G))
 (hexit:res=(own,0,0)->∀ env G,env.get 17=i64 own->K (.exit 2) env (H++G)) :
 ∀ (m i:Nat) (G:List AO) (env:Env),i+m=l.length->chkT own (ts.drop i) (ks.drop i) (l.drop i)=res->env.get 4=.ptr (.own H.length 0 0 0 0) 0->env.get 16=.slc (ints ts) ts.length->env.get 17=i64 own->env.get 118=.own (H.length+2) 0 ks.length 1 ks.length->env.get 119=i64 ks.length->env.get 120=i64 i →
  LI Tryz.prog N drawB l98_1 env (H++⟨[i64 op,i64 k,st (B nm),.slc (Ex.cL l) l.length,i64 p],24,0,true⟩::Z::kO ks::G) K:=by
 intro m
 induction m with
 | zero =>
  intro i G env hi hr h4 h16 h17 h118 h119 h120
  refine li_go hm l98_1.eq_1 ?_
  have e:i=l.length:=by omega
  have hn:¬ (i:Int)<ks.length:=by omega
  have hn':¬ i<ks.length:=by omega
  rw[List.drop_of_length_le (by omega),List.drop_of_length_le (by omega),List.drop_of_length_le (by omega)]at hr
  simp -implicitDefEqProofs[h4,h16,h17,h118,h119,h120,hn,hn']
  exact hexit hr.symm _ _ (by simp[h17])
 | succ m ih =>
  intro i G env hi hr h4 h16 h17 h118 h119 h120
  refine li_go hm l98_1.eq_1 ?_
  have h1:i<l.length:=by omega
  have h2:i<ks.length:=by omega
  have h3:i<ts.length:=by omega
  have h2':(i:Int)<ks.length:=by omega
  have h3':(i:Int)<ts.length:=by omega
  have h1':(i:Int)<l.length:=by omega
  rw[List.drop_eq_getElem_cons h1,List.drop_eq_getElem_cons h2,List.drop_eq_getElem_cons h3,chkT]at hr
  have hat:=exL_at h1
  have hcl:=exL_len l
  by_cases hne:ks[i]=ts[i]
  · rw[if_neg (by simp[hne])]at hr
    simp -implicitDefEqProofs[h4,h16,h17,h118,h119,h120,h2,h2',h3,h3',hne,kO]
    refine⟨by omega,by omega,?_⟩
    refine LI.cong ?_ (ih (i+1) G _ (by omega) hr ?_ ?_ ?_ ?_ ?_ ?_)
    · simp[kO]
    all_goals simp[h4,h16,h17,h118,h119,wrap_suc (show i<9223372036854775807 by omega)]
  · rw[if_pos hne]at hr
    simp -implicitDefEqProofs[h4,h16,h17,h118,h119,h120,h2,h2',h3,h3',hne,kO,h1,h1',hat,hcl]
    refine⟨by omega,by omega,by omega,call_go (ok113 (e:=10) (by decide) l[i].at) ?_⟩
    simp -implicitDefEqProofs[h4]
    subst hr
    exact hret rfl rfl _ _ (by simp) (by simp)
theorem ok24_none (hcl:closed H) {op k:Int} {nm:List UInt8} {l:List Ex} {p:Int} {depth:Nat} (hd:depth<100000) (hty:H[j]? = some (tyO (varsM vs) opsM rest T)) (ho:opOf op=none) :
 X Tryz.prog Tryz.f98.ntmps drawB i98 (argsEnv [rp j,(Ex.mk op k nm l p).v,i64 depth]) H (Fin H.length r98 (.ret (.tup [i64 (tyE vs (.mk op k nm l p)).1,errV (tyE vs (.mk op k nm l p)).2.1 (tyE vs (.mk op k nm l p)).2.2])) H):=by
 have hd':¬ (depth:Int)=100000:=by omega
 simp -implicitDefEqProofs[i98,r98,Ex.v,Ex.c,hd']
 have hal:=opsK_all
 have hoc:=fun L=>oc_app hty rfl rfl L
 simp only[tyO]at hoc
 have hlk:=opOf_none ho
 by_cases h1:op=1
 · subst h1
   by_cases hl0:l.length=0
   · have ht:tyE vs (.mk 1 k nm l p)=(1,0,0):=by rw[tyE,ho]; simp[hl0]
     have hl0':(l.length:Int)=0:=by omega
     rw[ht]
     simp -implicitDefEqProofs[rp,hoc,opsM,hlk,hl0']
     refine⟨hal,⟨rfl,rfl⟩,callq_go (r:=bl false) (fun h=>by cases h) ?_⟩
     simp -implicitDefEqProofs
     refine cv_fz 3 hcl rfl ?_
     simp[errV_0]
   · have ht:tyE vs (.mk 1 k nm l p)=(0,3,p):=by rw[tyE,ho]; simp[hl0]
     have hl0':¬ (l.length:Int)=0:=by omega
     have hnil:¬ l=[]:=fun h=>hl0 (by simp[h])
     rw[ht]
     simp -implicitDefEqProofs[rp,hoc,opsM,hlk,hl0',hnil]
     refine⟨hal,⟨rfl,rfl⟩,call_go (ok113 (e:=3) (by decide) p) ?_⟩
     simp -implicitDefEqProofs
     refine cv_fz 3 hcl rfl ?_
     simp
 · by_cases h2:op=2
   · subst h2
     by_cases hl0:l.length=0
     · have hl0':(l.length:Int)=0:=by omega
       simp -implicitDefEqProofs[rp,hoc,opsM,hlk,hl0']
       refine⟨hal,⟨rfl,rfl⟩,callq_st (r:=bl (decide (nm∈vs))) (fun _=>ok114 (get_app_l hty _) nm) ?_⟩
       by_cases hv:nm∈vs
       · have ht:tyE vs (.mk 2 k nm l p)=(1,0,0):=by rw[tyE,ho]; simp[hl0,hv]
         rw[ht]
         simp -implicitDefEqProofs[hv]
         refine cv_fz 3 hcl rfl ?_
         simp[errV_0]
       · have ht:tyE vs (.mk 2 k nm l p)=(0,7,p):=by rw[tyE,ho]; simp[hl0,hv]
         rw[ht]
         simp -implicitDefEqProofs[hv]
         refine call_go (ok113 (e:=7) (by decide) p) ?_
         simp -implicitDefEqProofs
         refine cv_fz 3 hcl rfl ?_
         simp
     · have ht:tyE vs (.mk 2 k nm l p)=(0,3,p):=by rw[tyE,ho]; simp[hl0]
       have hl0':¬ (l.length:Int)=0:=by omega
       have hnil:¬ l=[]:=fun h=>hl0 (by simp[h])
       rw[ht]
       simp -implicitDefEqProofs[rp,hoc,opsM,hlk,hl0',hnil]
       refine⟨hal,⟨rfl,rfl⟩,call_go (ok113 (e:=3) (by decide) p) ?_⟩
       simp -implicitDefEqProofs
       refine cv_fz 3 hcl rfl ?_
       simp
   · have ht:tyE vs (.mk op k nm l p)=(0,3,p):=by rw[tyE,ho]; simp[h1,h2]
     rw[ht]
     simp -implicitDefEqProofs[rp,hoc,opsM,hlk,h1,h2]
     refine⟨hal,⟨rfl,rfl⟩,call_go (ok113 (e:=3) (by decide) p) ?_⟩
     simp -implicitDefEqProofs
     refine cv_fz 3 hcl rfl ?_
     simp
theorem ok24_some (hcl:closed H) {o:List Int×Int×Bool} {op k:Int} {nm:List UInt8} {l:List Ex} {p:Int} {depth:Nat} (hd:depth<100000) (hty:H[j]? = some (tyO (varsM vs) opsM rest T)) (ho:opOf op=some o) (hIH:∀ e∈l,∀ H,H[j]? = some (tyO (varsM vs) opsM rest T)->Ok Tryz.prog 98 [rp j,e.v,i64 ((depth+1:Nat):Int)] H (.ret (.tup [i64 (tyE vs e).1,errV (tyE vs e).2.1 (tyE vs e).2.2])) H) :
 X Tryz.prog Tryz.f98.ntmps drawB i98 (argsEnv [rp j,(Ex.mk op k nm l p).v,i64 depth]) H (Fin H.length r98 (.ret (.tup [i64 (tyE vs (.mk op k nm l p)).1,errV (tyE vs (.mk op k nm l p)).2.1 (tyE vs (.mk op k nm l p)).2.2])) H):=by
 have hd':¬ (depth:Int)=100000:=by omega
 simp -implicitDefEqProofs[i98,r98,Ex.v,Ex.c,hd']
 have hal:=opsK_all
 have hoc:=fun L=>oc_app hty rfl rfl L
 simp only[tyO]at hoc
 have hlk:=opOf_some ho
 obtain⟨hp1,hp2⟩:=opOf_plain ho
 obtain⟨ho3,hoM⟩:=opOf_len ho
 have hfm:(fnM o.2.2).isCell=true:=by cases o.2.2<;>rfl
 generalize hx:tyE vs (.mk op k nm l p)=x
 rw[tyE,ho]at hx
 by_cases hll:l.length=o.1.length
 · have hll':(l.length:Int)=o.1.length:=by omega
   simp only[hll,ne_eq,not_true_eq_false,if_false]at hx
   generalize hres:tyL vs l=res at hx
   simp -implicitDefEqProofs[rp,hoc,opsM,hlk,hp1,hp2,opV,hll]
   refine⟨hal,hfm,by omega,by omega,?_⟩
   refine LI.cong (H':=H++⟨[i64 op,i64 k,st (B nm),.slc (Ex.cL l) l.length,i64 p],24,0,true⟩::oO o::kO []::[]) (by simp[oO,kO,ints,hll]) ?_
   refine loop98_0 hty hd (by omega) hIH (res:=res) (fun f hf hf0 env G h6 h7 => ?_) (fun ks hks hkl env G h4 h8 h11 => ?_) l.length 0 [] [] _ (by omega) rfl ?_ ?_ ?_ ?_ ?_ ?_ ?_ ?_ ?_
   · subst hf
     simp only at hx
     subst hx
     simp -implicitDefEqProofs[h6,h7]
     refine cv_fz 3 hcl rfl ?_
     simp
   · subst hks
     simp only at hx
     by_cases hM:o.2.2=true
     · have hl3:l.length=3:=by rw[hll]; exact hoM hM
       have ht:takesOf o ks=[2,ks.getD 1 0,ks.getD 1 0]:=by unfold takesOf; rw[if_pos hM]
       have hw:ownOf o ks=ks.getD 1 0:=by unfold ownOf; rw[if_pos hM]
       rw[ht,hw]at hx
       obtain⟨a,b,c,rfl⟩:∃ a b c,ks=[a,b,c]:=by
        match ks,hkl with
        | [a,b,c],_=>exact⟨a,b,c,rfl⟩
        | [],h=>simp at h; omega
        | [a],h=>simp at h; omega
        | [a,b],h=>simp at h; omega
        | a::b::c::d::r,h=>simp at h; omega
       simp -implicitDefEqProofs[h4,h8,h11,oO,hM,fnM]
       refine call_go (ok111 (H:=_) (k:=H.length+2) (v:=3) (a:=a) (b:=b) (c:=c) (by simp[kO,ints])) ?_
       simp -implicitDefEqProofs[h4,h8,h11]
       refine loop98_1 (l:=l) (ks:=[a,b,c]) (ts:=[2,b,b]) (own:=b) (op:=op) (k:=k) (nm:=nm) (p:=p) (v:=0) (res:=x) (by omega) (by simp[hl3]) (by simp[hl3]) (fun h10 h0 env G h6 h7 => ?_) (fun he env G h17 => ?_) l.length 0 _ _ (by omega) hx ?_ ?_ ?_ ?_ ?_ ?_
       · simp -implicitDefEqProofs[h6,h7]
         rw[h0]
         refine cv_fz 3 hcl rfl ?_
         simp
       · simp -implicitDefEqProofs[h17]
         subst he
         refine cv_fz 3 hcl rfl ?_
         simp[errV_0]
       all_goals simp[h4,ints]
     · have ht:takesOf o ks=o.1:=by unfold takesOf; rw[if_neg hM]
       have hw:ownOf o ks=o.2.1:=by unfold ownOf; rw[if_neg hM]
       rw[ht,hw]at hx
       rw[Bool.not_eq_true]at hM
       simp -implicitDefEqProofs[h4,h8,h11,oO,hM,fnM]
       refine loop98_1 (l:=l) (ks:=ks) (ts:=o.1) (own:=o.2.1) (op:=op) (k:=k) (nm:=nm) (p:=p) (v:=0) (res:=x) (by omega) hkl hll.symm (fun h10 h0 env G h6 h7 => ?_) (fun he env G h17 => ?_) l.length 0 _ _ (by omega) hx ?_ ?_ ?_ ?_ ?_ ?_
       · simp -implicitDefEqProofs[h6,h7]
         rw[h0]
         refine cv_fz 3 hcl rfl ?_
         simp
       · simp -implicitDefEqProofs[h17]
         subst he
         refine cv_fz 3 hcl rfl ?_
         simp[errV_0]
       all_goals simp[h4]
   · rw[←hres]; simp; cases tyL vs l<;>rfl
   all_goals simp[hll,rp]
 · have hll':¬ (l.length:Int)=o.1.length:=by omega
   simp only[hll,ne_eq,not_false_eq_true,if_true]at hx
   subst hx
   simp -implicitDefEqProofs[rp,hoc,opsM,hlk,hp1,hp2,opV,hll',hll]
   refine⟨hal,hfm,call_go (ok113 (e:=3) (by decide) p) ?_⟩
   simp -implicitDefEqProofs
   refine cv_fz 3 hcl rfl ?_
   simp
end
mutual
theorem ok98 {H:List AO} {vs:List (List UInt8)} {rest:List SV} {j:Nat} {T:TypeId}:∀ (e:Ex) (depth:Nat),depth+e.hgt≤100000->H[j]? = some (tyO (varsM vs) opsM rest T) →
 Ok Tryz.prog 98 [rp j,e.v,i64 depth] H (.ret (.tup [i64 (tyE vs e).1,errV (tyE vs e).2.1 (tyE vs e).2.2])) H
 | .mk op k nm l p,depth,hd,hty=>by
  rw[Ex.hgt]at hd
  refine ok_fn hm Tryz.func98 c98 (by simp) fun hcl => ?_
  cases ho:opOf op with
  | none=>exact ok24_none hcl (by omega) hty ho
  | some o=>exact ok24_some hcl (by omega) hty ho fun e he H' h'=>ok24L l (depth+1) (by omega) e he h'
theorem ok24L {vs:List (List UInt8)} {rest:List SV} {j:Nat} {T:TypeId}:∀ (l:List Ex) (depth:Nat),depth+Ex.hgtL l≤100000->∀ e∈l,∀ {H:List AO},H[j]? = some (tyO (varsM vs) opsM rest T) →
 Ok Tryz.prog 98 [rp j,e.v,i64 depth] H (.ret (.tup [i64 (tyE vs e).1,errV (tyE vs e).2.1 (tyE vs e).2.2])) H
 | [],depth,hd,e,he,_,_=>by simp at he
 | x::r,depth,hd,e,he,H,hty=>by
  rw[Ex.hgtL]at hd
  by_cases h:e=x
  · rw[h]; exact ok98 x depth (by omega) hty
  · exact ok24L r depth (by omega) e (by simpa[h]using he) hty
end
end Go.Proofs.YtcejichidnlicaaGreatDoor
namespace Go.Proofs.YtcejichidnlicaaGreatDoor
open Go.Ab
variable [FrEnv]
mutual
def evE (ns:List (List UInt8)) (vs:List Int):Ex->Vr
 | .mk op k nm l _ =>
  if opN op≠(l.length:Int)then .error 3
  else if op=1 then numF k
  else if op=2 then match lookF ns vs nm with
   | none=>.error 7
   | some v=>numF v
  else appF op (evL ns vs l)
def evL (ns:List (List UInt8)) (vs:List Int):List Ex->List Vr
 | []=>[]
 | e::r=>evE ns vs e::evL ns vs r
end
theorem evL_map (ns:List (List UInt8)) (vs:List Int):∀ l:List Ex,evL ns vs l=l.map (evE ns vs)
 | []=>by rw[evL]; rfl
 | e::r=>by rw[evL,evL_map ns vs r]; rfl
theorem evL_len (ns:List (List UInt8)) (vs:List Int) (l:List Ex):(evL ns vs l).length=l.length:=by rw[evL_map]; simp
theorem numF_sm {n m:Int} (h:numF n=.ok (1,m)):Sm m:=by
 unfold numF at h
 split at h
 · cases h
 · rename_i hn; cases h; unfold Sm; omega
theorem boolF_no {b:Bool} {m:Int} (h:boolF b=.ok (1,m)):False:=by cases h
theorem appF_sm {op:Int} {w:List Vr} (hw:∀ i n,wAt w i=.ok (1,n)->Sm n) {n:Int} (h:appF op w=.ok (1,n)):Sm n:=by
 unfold appF at h
 repeat' split at h
 all_goals first
  | cases h; done
  | exact numF_sm h
  | exact(boolF_no h).elim
  | exact hw _ _ h
mutual
theorem ev_sm (ns:List (List UInt8)) (vs:List Int):∀ (e:Ex) {n:Int},evE ns vs e=.ok (1,n)->Sm n
 | .mk op k nm l p,n,h=>by
  have ih:=evL_sm ns vs l
  rw[evE]at h
  split at h
  · cases h
  · split at h
    · exact numF_sm h
    · split at h
      · split at h
        · cases h
        · exact numF_sm h
      · exact appF_sm ih h
theorem evL_sm (ns:List (List UInt8)) (vs:List Int):∀ (l:List Ex) (i:Nat) (n:Int),wAt (evL ns vs l) i=.ok (1,n)->Sm n
 | [],i,n,h=>by rw[evL]at h; simp[wAt]at h
 | e::r,0,n,h=>by rw[evL]at h; exact ev_sm ns vs e (by simpa[wAt]using h)
 | e::r,i+1,n,h=>by rw[evL]at h; exact evL_sm ns vs r i n (by simpa[wAt]using h)
end
theorem wAt_ev (ns:List (List UInt8)) (vs:List Int) {l:List Ex} {i:Nat} (h:i<l.length):wAt (evL ns vs l) i=evE ns vs l[i]:=by
 rw[evL_map]; unfold wAt; simp[h]
section
variable {ns:List (List UInt8)} {vs:List Int}
theorem macV_und (n:Nat):(macV ns vs).under n=true:=by simp[macV,refV,SV.under,SV.underL,SV.underL_iff,wds,ints,binV]
theorem macV_vd:(macV ns vs).vd=true:=rfl
theorem macV_flat:(macV ns vs).ug.flat=[macV ns vs]:=rfl
theorem macV_cell:(macV ns vs).isCell=true:=rfl
theorem ok60 {op k:Int} {nm:List UInt8} {l:List Ex} {p:Int} {H:List AO} {j:Nat} {d:Nat} (hj:H[j]? = some ⟨[macV ns vs],52,0,true⟩) (hj1:H[j+1]? = some ⟨(Ex.mk op k nm l p).c,24,0,true⟩) (hj2:H[j+2]? = some ⟨[i64 d],3,0,true⟩)
 (hd:d<100000) {i:Nat} (hi:i<l.length) (hsz:l.length≤3) (hIH:∀ H,Ok Tryz.prog 28 [macV ns vs,l[i].v,i64 ((d+1:Nat):Int)] H (outV (evE ns vs l[i])) H) :
 Ok Tryz.prog 60 [i64 i,rp j,rp (j+1),rp (j+2)] H (outV (evE ns vs l[i])) H:=by
 have h1:=getElem?_lt hj
 have h2:=getElem?_lt hj1
 have h3:=getElem?_lt hj2
 have e1:=fun L=>oc_app hj rfl rfl L
 have e2:=fun L=>oc_app hj1 rfl rfl L
 have e3:=fun L=>oc_app hj2 rfl rfl L
 simp only[Ex.c]at e2
 refine ok_fn hm Tryz.func60 c60 (by simp[rp,h1,h2,h3]) fun hcl => ?_
 have hg:=exL_get hi
 have hcl':=exL_len l
 have hi':(i:Int)<l.length:=by omega
 have w1:IntKind.i64.wrap ((d:Int)+1)=((d+1:Nat):Int):=wrap_succ (by omega)
 simp -implicitDefEqProofs[i60,r60,rp,e1,e2,e3,Ex.c,hg,hcl',hi,hi',w1]
 refine⟨by omega,call_go (hIH _) ?_⟩
 generalize evE ns vs l[i]=y
 cases y with
 | error e =>
  simp -implicitDefEqProofs[outV]
  exact cv_fz 2 hcl rfl rfl
 | ok v =>
  simp -implicitDefEqProofs[outV,e1,e2,e3,hi,hcl',hg]
  exact cv_fz 2 hcl rfl rfl
mutual
theorem ok28:∀ (e:Ex) (d:Nat),d+e.hgt≤100000->ns.length=vs.length->ns.length<4611686018427387904->∀ H,Ok Tryz.prog 28 [macV ns vs,e.v,i64 d] H (outV (evE ns vs e)) H
 | .mk op k nm l p,d,hd,hnv,hnl,H=>by
  rw[Ex.hgt]at hd
  have hIH:=ok28L l (d+1) (by omega) hnv hnl
  refine ok_fn hm Tryz.func28 c28 (by simp[macV_und,Ex.und_v]) fun hcl => ?_
  have hd':¬ (d:Int)=100000:=by omega
  simp -implicitDefEqProofs[i28,r28,Ex.v,Ex.c,hd',macV_vd,macV_flat,macV_cell]
  refine callq_go (fun _=>ok57 _) ?_
  generalize hr:evE ns vs (.mk op k nm l p)=r
  rw[evE]at hr
  by_cases h3:opN op=(l.length:Int)
  · rw[if_neg (by simp[h3])]at hr
    simp -implicitDefEqProofs[h3]
    by_cases h1:op=1
    · rw[if_pos h1]at hr
      subst hr
      simp -implicitDefEqProofs[h1]
      refine call_go (ok58 _) ?_
      generalize numF k=y
      cases y with
      | error e =>
       simp -implicitDefEqProofs[outV]
       exact cv_fz 6 hcl rfl rfl
      | ok v =>
       simp -implicitDefEqProofs[outV]
       exact cv_fz 6 hcl rfl rfl
    · rw[if_neg h1]at hr
      by_cases h2:op=2
      · rw[if_pos h2]at hr
        subst h2
        simp -implicitDefEqProofs[macV]
        refine call_of (a:=[]) (b:=[refV (.slc (wds ns) ns.length),refV (.slc (ints vs) vs.length)]) (ok39 hnv hnl nm) ?_
        generalize lookF ns vs nm=z at hr
        cases z with
        | none =>
         subst hr
         simp -implicitDefEqProofs[outV,lookV]
         exact cv_fz 6 hcl rfl rfl
        | some v =>
         simp only at hr
         subst hr
         have h58:=fun H=>ok58 (H:=H) v
         generalize numF v=y at h58
         simp -implicitDefEqProofs[lookV]
         refine call_go (h58 _) ?_
         cases y with
         | error e =>
          simp -implicitDefEqProofs[outV]
          exact cv_fz 6 hcl rfl rfl
         | ok v =>
          simp -implicitDefEqProofs[outV]
          exact cv_fz 6 hcl rfl rfl
      · rw[if_neg h2]at hr
        simp -implicitDefEqProofs[h1,h2]
        have hop:3≤op∧op≤20∧opN op≤3:=by
         unfold opN at h3 ⊢
         rw[if_neg (by omega)]at h3 ⊢
         by_cases h34:op=3∨op=4
         · rw[if_pos h34]; omega
         · rw[if_neg h34]at h3 ⊢
           by_cases h20:op=20
           · rw[if_pos h20]; omega
           · rw[if_neg h20]at h3 ⊢
             by_cases hb:4<op∧op<20
             · rw[if_pos hb]; omega
             · rw[if_neg hb]at h3; omega
        have hopr:Opr (H++[⟨[macV ns vs],52,0,true⟩,⟨[i64 op,i64 k,st (B nm),.slc (Ex.cL l) l.length,i64 p],24,0,true⟩,⟨[i64 d],3,0,true⟩,⟨[i64 0,i64 0],30,0,true⟩]) 60 [rp H.length,rp (H.length+1),rp (H.length+2)] (evL ns vs l):=by
         refine⟨fun L i hi => ?_,by simp[rp]⟩
         rw[evL_len]at hi
         rw[wAt_ev ns vs hi]
         exact ok60 (op:=op) (k:=k) (nm:=nm) (p:=p) (by simp) (by simp[Ex.c]) (by simp) (by omega) hi (by omega) (hIH _ (List.getElem_mem hi))
        refine call_go (ok59 ns vs hopr ⟨hop.1,hop.2.1⟩ (by rw[evL_len,h3]) (evL_sm ns vs l) trivial) ?_
        rw[hr]
        cases r with
        | error e =>
         simp -implicitDefEqProofs[outV]
         exact cv_fz 6 hcl rfl rfl
        | ok v =>
         simp -implicitDefEqProofs[outV]
         exact cv_fz 6 hcl rfl rfl
  · rw[if_pos (by simp[h3])]at hr
    subst hr
    simp -implicitDefEqProofs[h3,outV]
    exact cv_fz 6 hcl rfl rfl
theorem ok28L:∀ (l:List Ex) (d:Nat),d+Ex.hgtL l≤100000->ns.length=vs.length->ns.length<4611686018427387904->∀ e∈l,∀ H,Ok Tryz.prog 28 [macV ns vs,e.v,i64 d] H (outV (evE ns vs e)) H
 | [],d,hd,hnv,hnl,e,he,_=>by simp at he
 | x::r,d,hd,hnv,hnl,e,he,H=>by
  rw[Ex.hgtL]at hd
  by_cases h:e=x
  · rw[h]; exact ok28 x d (by omega) hnv hnl H
  · exact ok28L r d (by omega) hnv hnl e (by simpa[h]using he) H
end
end
end Go.Proofs.YtcejichidnlicaaGreatDoor
namespace Go.Proofs.YtcejichidnlicaaGreatDoor
open Go.Ab
variable [FrEnv]
def retV (r:Vr):Out:=match r with
 | .ok v=>.ret (.tup [.agg [i64 v.1,i64 v.2],i64 0])
 | .error e=>.ret (.tup [.agg [i64 0,i64 0],i64 e])
section
variable {H:List AO}
theorem okD54n {f g:Nat} (hf:f<H.length) (hg:g<H.length):OkD Tryz.prog 54 [rp f,rp g] H none (fun H'=>H'=H):=by
 refine okD_rc hm Tryz.func54 c54 (by rfl) fun hcl => ?_
 simp -implicitDefEqProofs[i54s,i54,rp,rvD,SV.isIf,SV.ifNil]
 exact cv_id
theorem okD54e {f g:Nat} {c1 c2:List SV} (hf:H[f]? = some ⟨c1,30,0,true⟩) (hc1:c1.length=2) (hg:H[g]? = some ⟨c2,31,0,true⟩) (hc2:c2.length=1) (hne:f≠g) (e:Int) :
 OkD Tryz.prog 54 [rp f,rp g] H (some (.ifc 31 (i64 e))) (fun H'=>H'=(H.set f ⟨[i64 0,i64 0],30,0,true⟩).set g ⟨[i64 e],31,0,true⟩):=by
 have hj:=getElem?_lt hf
 have hjg:=getElem?_lt hg
 have e1:objCells H f 0=c1:=objCells_of (o:=⟨c1,30,0,true⟩) hf rfl
 have e2:∀ h:AO->AO,Ab.setObj H f h=H.set f (h ⟨c1,30,0,true⟩):=fun h=>setObj_some hf h
 have hg':(H.set f ⟨[i64 0,i64 0],30,0,true⟩)[g]? = some ⟨c2,31,0,true⟩:=by rw[List.getElem?_set_ne hne]; exact hg
 have e3:objCells (H.set f ⟨[i64 0,i64 0],30,0,true⟩) g 0=c2:=objCells_of (o:=⟨c2,31,0,true⟩) hg' rfl
 have e4:∀ h:AO->AO,Ab.setObj (H.set f ⟨[i64 0,i64 0],30,0,true⟩) g h=(H.set f ⟨[i64 0,i64 0],30,0,true⟩).set g (h ⟨c2,31,0,true⟩):=fun h=>setObj_some hg' h
 have d1:List.drop 2 c1=[]:=List.drop_of_length_le (by omega)
 have d2:List.drop 1 c2=[]:=List.drop_of_length_le (by omega)
 refine okD_rc hm Tryz.func54 c54 (by rfl) fun hcl => ?_
 simp -implicitDefEqProofs[i54s,i54,rp,rvD,SV.isIf,SV.ifNil,SV.ifIs,SV.ifVal,e1,e2,e3,e4,hc1,hc2,d1,d2]
 obtain⟨x,rfl⟩:∃ x,c2=[x]:=by
  match c2,hc2 with
  | [x],_=>exact⟨x,rfl⟩
 exact cv_id
theorem fin26r (hcl:closed H) {env:Env} {H1:List AO} (v:Int×Int) (hH:H1=H++[⟨[i64 v.1,i64 v.2],30,0,true⟩,⟨[i64 0],31,0,true⟩]) (h2:env.get 2=rp H.length) (h3:env.get 3=rp (H.length+1)) :
 FinD Tryz.prog H.length r26 (fun o h=>o=retV (.ok v)∧h=H) 54 [rp H.length,rp (H.length+1)] .ret env H1:=by
 subst hH
 refine⟨_,okD54n (by simp) (by simp),?_⟩
 rintro H4 rfl
 have e1:objCells (H++[⟨[i64 v.1,i64 v.2],30,0,true⟩,⟨[i64 0],31,0,true⟩]) H.length 0=[i64 v.1,i64 v.2]:=objCells_of (o:=⟨[i64 v.1,i64 v.2],30,0,true⟩) (by simp) rfl
 have e2:objCells (H++[⟨[i64 v.1,i64 v.2],30,0,true⟩,⟨[i64 0],31,0,true⟩]) (H.length+1) 0=[i64 0]:=objCells_of (o:=⟨[i64 0],31,0,true⟩) (by simp) rfl
 refine⟨?_,_,H,⟨rfl,rfl⟩,?_⟩
 · intro s hs
   simp only[r26,List.mem_cons,List.not_mem_nil,or_false]at hs
   rcases hs with rfl | rfl
   · simp[RS.side,h2,rp,e1]
   · simp[RS.side,h3,rp,e2]
 · have hr:resV env (H++[⟨[i64 v.1,i64 v.2],30,0,true⟩,⟨[i64 0],31,0,true⟩]) r26=.tup [.agg [i64 v.1,i64 v.2],i64 0]:=by
    simp[resV,r26,RS.ev,h2,h3,rp,e1,e2]
   rw[hr]
   exact cv_fz 6 hcl rfl rfl
theorem fin26e (hcl:closed H) {env:Env} {H1:List AO} (e:Int) (hH:H1=H++[⟨[i64 0,i64 0],30,0,true⟩,⟨[i64 0],31,0,true⟩]) (h2:env.get 2=rp H.length) (h3:env.get 3=rp (H.length+1)) :
 FinD Tryz.prog H.length r26 (fun o h=>o=retV (.error e)∧h=H) 54 [rp H.length,rp (H.length+1)] (.panic (.ifc 31 (i64 e))) env H1:=by
 subst hH
 refine⟨_,okD54e (c1:=[i64 0,i64 0]) (c2:=[i64 0]) (by simp) rfl (by simp) rfl (by omega) e,?_⟩
 rintro H4 rfl
 have hH:((H++[⟨[i64 0,i64 0],30,0,true⟩,(⟨[i64 0],31,0,true⟩:AO)]).set H.length ⟨[i64 0,i64 0],30,0,true⟩).set (H.length+1) ⟨[i64 e],31,0,true⟩=H++[⟨[i64 0,i64 0],30,0,true⟩,(⟨[i64 e],31,0,true⟩:AO)]:=by simp
 rw[hH]
 have e1:objCells (H++[⟨[i64 0,i64 0],30,0,true⟩,⟨[i64 e],31,0,true⟩]) H.length 0=[i64 0,i64 0]:=objCells_of (o:=⟨[i64 0,i64 0],30,0,true⟩) (by simp) rfl
 have e2:objCells (H++[⟨[i64 0,i64 0],30,0,true⟩,⟨[i64 e],31,0,true⟩]) (H.length+1) 0=[i64 e]:=objCells_of (o:=⟨[i64 e],31,0,true⟩) (by simp) rfl
 refine⟨?_,_,H,⟨rfl,rfl⟩,?_⟩
 · intro s hs
   simp only[r26,List.mem_cons,List.not_mem_nil,or_false]at hs
   rcases hs with rfl | rfl
   · simp[RS.side,h2,rp,e1]
   · simp[RS.side,h3,rp,e2]
 · have hr:resV env (H++[⟨[i64 0,i64 0],30,0,true⟩,⟨[i64 e],31,0,true⟩]) r26=.tup [.agg [i64 0,i64 0],i64 e]:=by
    simp[resV,r26,RS.ev,h2,h3,rp,e1,e2]
   rw[hr]
   exact cv_fz 6 hcl rfl rfl
theorem ok26 {kf:Nat} {cap:List SV} {r:Vr} (hk:∀ L,Ok Tryz.prog kf cap (H++L) (outV r) (H++L)):Ok Tryz.prog 26 [.fn (.func kf) [] cap] H (retV r) H:=by
 refine OkP.toOk (okP_df hm Tryz.func26 c26 (by rfl) fun hcl => ?_)
 simp -implicitDefEqProofs[i26a,i26s,i26f,i26]
 refine⟨54,_,⟨rfl,rfl⟩,call_of (a:=[]) (b:=cap) (by simpa using hk _) ?_⟩
 cases r with
 | error e =>
  simp -implicitDefEqProofs[outV]
  exact fin26e hcl e rfl (by simp[rp]) (by simp[rp])
 | ok v =>
  simp -implicitDefEqProofs[outV]
  exact fin26r hcl v rfl (by simp[rp]) (by simp[rp])
theorem ok27 {ns:List (List UInt8)} {vs:List Int} {e:Ex} (hh:e.hgt≤100000) (hnv:ns.length=vs.length) (hnl:ns.length<4611686018427387904) {j k:Nat} (hj:H[j]? = some ⟨[macV ns vs],52,0,true⟩) (hk:H[k]? = some ⟨e.c,24,0,true⟩) :
 Ok Tryz.prog 27 [rp j,rp k] H (outV (evE ns vs e)) H:=by
 have h1:=getElem?_lt hj
 have h2:=getElem?_lt hk
 have e1:=fun L=>oc_app hj rfl rfl L
 have e2:=fun L=>oc_app hk rfl rfl L
 have h28:=fun H=>ok28 e 0 (by omega) hnv hnl H
 refine ok_fn hm Tryz.func27 c27 (by simp[rp,h1,h2]) fun hcl => ?_
 simp -implicitDefEqProofs[i27,r27,rp,e1,e2]
 refine call_go (h28 _) ?_
 generalize evE ns vs e=r
 cases r with
 | error e =>
  simp -implicitDefEqProofs[outV]
  exact cv_fz 6 hcl rfl rfl
 | ok v =>
  simp -implicitDefEqProofs[outV]
  exact cv_fz 6 hcl rfl rfl
def evalF (ns:List (List UInt8)) (vs:List Int) (e:Ex):Vr:=if ns.length≠vs.length then .error 3 else evE ns vs e
theorem ok9 {ns:List (List UInt8)} {vs:List Int} {e:Ex} (hh:e.hgt≤100000) (hnl:ns.length<4611686018427387904):Ok Tryz.prog 9 [e.v,.slc (wds ns) ns.length,.slc (ints vs) vs.length] H (retV (evalF ns vs e)) H:=by
 refine ok_fn hm Tryz.func9 c9 (by simp[Ex.und_v,SV.under,SV.underL_iff,wds,ints]) fun hcl => ?_
 unfold evalF
 by_cases hnv:ns.length=vs.length
 · have hnv':(ns.length:Int)=vs.length:=by omega
   rw[if_neg (by simp[hnv])]
   have h26:=fun(j k:Nat) (hj:∀ L,((H++[⟨e.c,24,0,true⟩,⟨[i64 0,i64 0],30,0,true⟩,⟨[macV ns vs],52,0,true⟩])++L)[j]? = some ⟨[macV ns vs],52,0,true⟩) (hk:∀ L,((H++[⟨e.c,24,0,true⟩,⟨[i64 0,i64 0],30,0,true⟩,⟨[macV ns vs],52,0,true⟩])++L)[k]? = some ⟨e.c,24,0,true⟩)=>ok26 (H:=H++[⟨e.c,24,0,true⟩,⟨[i64 0,i64 0],30,0,true⟩,⟨[macV ns vs],52,0,true⟩]) (kf:=27) (cap:=[rp j,rp k]) (r:=evE ns vs e) (fun L=>ok27 hh hnv hnl (hj L) (hk L))
   have h26':=h26 (H.length+2) H.length (fun L=>by simp) (fun L=>by simp)
   clear h26
   simp -implicitDefEqProofs[i9,r9,Ex.v,hnv']
   refine call_go (ok25 ns vs) ?_
   simp -implicitDefEqProofs[macV_vd,macV_flat,macV_cell]
   refine call_go h26' ?_
   generalize evE ns vs e=r
   cases r with
   | error e =>
    simp -implicitDefEqProofs[retV]
    exact cv_fz 6 hcl rfl rfl
   | ok v =>
    simp -implicitDefEqProofs[retV]
    exact cv_fz 6 hcl rfl rfl
 · have hnv':¬ (ns.length:Int)=vs.length:=by omega
   rw[if_pos hnv]
   simp -implicitDefEqProofs[i9,r9,Ex.v,hnv',retV]
   exact cv_fz 6 hcl rfl rfl
def asF (k:Int):Vr->Int×Int
 | .error e=>(0,e)
 | .ok v=>if v.1≠k then(0,10)else(v.2,0)
theorem ok30v (k:Int) (v:Int×Int):Ok Tryz.prog 30 [i64 k,.agg [i64 v.1,i64 v.2],i64 0] H (.ret (.tup [i64 (asF k (.ok v)).1,i64 (asF k (.ok v)).2])) H:=by
 refine ok_fn hm Tryz.func30 c30 (by simp) fun hcl => ?_
 by_cases h:v.1=k
 · simp -implicitDefEqProofs[i30,r30,h,asF]
   exact cv_fz 3 hcl rfl rfl
 · simp -implicitDefEqProofs[i30,r30,h,asF]
   exact cv_fz 3 hcl rfl rfl
theorem ok30e (k:Int) {e:Int} (he:e≠0):Ok Tryz.prog 30 [i64 k,.agg [i64 0,i64 0],i64 e] H (.ret (.tup [i64 0,i64 e])) H:=by
 refine ok_fn hm Tryz.func30 c30 (by simp) fun hcl => ?_
 simp -implicitDefEqProofs[i30,r30,he]
 exact cv_fz 3 hcl rfl rfl
theorem numF_ne {n e:Int} (h:numF n=.error e):e≠0:=by
 unfold numF at h
 split at h
 · cases h; decide
 · cases h
theorem ofF_ne {k e:Int} {w:Vr} (hw:∀ e,w=.error e->e≠0) (h:ofF k w=.error e):e≠0:=by
 unfold ofF at h
 split at h
 · cases h; exact hw _ rfl
 · split at h
   · cases h; decide
   · cases h
theorem boolF_ne {b:Bool} {e:Int} (h:boolF b=.error e):False:=by cases h
theorem appF_ne {op:Int} {w:List Vr} (hw:∀ i e,wAt w i=.error e->e≠0) {e:Int} (h:appF op w=.error e):e≠0:=by
 unfold appF at h
 repeat' split at h
 all_goals first
  | exact numF_ne h
  | exact(boolF_ne h).elim
  | exact hw _ _ h
  | (cases h; decide)
  | (rename_i hx; cases h; exact ofF_ne (hw _) hx)
mutual
theorem ev_ne (ns:List (List UInt8)) (vs:List Int):∀ (x:Ex) {e:Int},evE ns vs x=.error e->e≠0
 | .mk op k nm l p,e,h=>by
  have ih:=evL_ne ns vs l
  rw[evE]at h
  split at h
  · cases h; decide
  · split at h
    · exact numF_ne h
    · split at h
      · split at h
        · cases h; decide
        · exact numF_ne h
      · exact appF_ne ih h
theorem evL_ne (ns:List (List UInt8)) (vs:List Int):∀ (l:List Ex) (i:Nat) (e:Int),wAt (evL ns vs l) i=.error e->e≠0
 | [],i,e,h=>by rw[evL]at h; simp[wAt]at h; omega
 | x::r,0,e,h=>by rw[evL]at h; exact ev_ne ns vs x (by simpa[wAt]using h)
 | x::r,i+1,e,h=>by rw[evL]at h; exact evL_ne ns vs r i e (by simpa[wAt]using h)
end
theorem eval_ne {ns:List (List UInt8)} {vs:List Int} {x:Ex} {e:Int} (h:evalF ns vs x=.error e):e≠0:=by
 unfold evalF at h
 split at h
 · cases h; decide
 · exact ev_ne ns vs x h
theorem ok11 {ns:List (List UInt8)} {vs:List Int} {e:Ex} (hh:e.hgt≤100000) (hnl:ns.length<4611686018427387904):Ok Tryz.prog 11 [e.v,.slc (wds ns) ns.length,.slc (ints vs) vs.length] H (.ret (.tup [i64 (asF 1 (evalF ns vs e)).1,i64 (asF 1 (evalF ns vs e)).2])) H:=by
 refine ok_fn hm Tryz.func11 c11 (by simp[Ex.und_v,SV.under,SV.underL_iff,wds,ints]) fun hcl => ?_
 have h9:=fun H=>ok9 (H:=H) (vs:=vs) hh hnl
 have hne:=fun x=>eval_ne (ns:=ns) (vs:=vs) (x:=e) (e:=x)
 simp -implicitDefEqProofs[i11,r11,Ex.v]
 refine call_go (h9 _) ?_
 generalize evalF ns vs e=r at hne
 cases r with
 | error x =>
  simp -implicitDefEqProofs[retV]
  refine call_go (ok30e 1 (hne x rfl)) ?_
  simp -implicitDefEqProofs[asF]
  exact cv_fz 6 hcl rfl rfl
 | ok v =>
  simp -implicitDefEqProofs[retV]
  refine call_go (ok30v 1 v) ?_
  generalize asF 1 (.ok v)=y
  simp -implicitDefEqProofs
  exact cv_fz 6 hcl rfl rfl
theorem ok13 {ns:List (List UInt8)} {vs:List Int} {e:Ex} (hh:e.hgt≤100000) (hnl:ns.length<4611686018427387904):Ok Tryz.prog 13 [e.v,.slc (wds ns) ns.length,.slc (ints vs) vs.length] H (.ret (.tup [bl (decide ((asF 2 (evalF ns vs e)).1=1)),i64 (asF 2 (evalF ns vs e)).2])) H:=by
 refine ok_fn hm Tryz.func13 c13 (by simp[Ex.und_v,SV.under,SV.underL_iff,wds,ints]) fun hcl => ?_
 have h9:=fun H=>ok9 (H:=H) (vs:=vs) hh hnl
 have hne:=fun x=>eval_ne (ns:=ns) (vs:=vs) (x:=e) (e:=x)
 simp -implicitDefEqProofs[i13,r13,Ex.v]
 refine call_go (h9 _) ?_
 generalize evalF ns vs e=r at hne
 cases r with
 | error x =>
  simp -implicitDefEqProofs[retV]
  refine call_go (ok30e 2 (hne x rfl)) ?_
  simp -implicitDefEqProofs[asF]
  exact cv_fz 6 hcl rfl rfl
 | ok v =>
  simp -implicitDefEqProofs[retV]
  refine call_go (ok30v 2 v) ?_
  generalize asF 2 (.ok v)=y
  simp -implicitDefEqProofs
  exact cv_fz 6 hcl rfl rfl
end
end Go.Proofs.YtcejichidnlicaaGreatDoor
namespace Go.Proofs.YtcejichidnlicaaGreatDoor
open Go.Ab
variable [FrEnv]
section
variable {H:List AO}
theorem ok70 (op:Int):Ok Tryz.prog 70 [i64 op] H (.ret (i64 (opN op))) H:=by
 refine ok_fn hm Tryz.func70 c70 (by simp) fun hcl => ?_
 generalize hw:opN op=w
 unfold opN at hw
 by_cases h1:op=1
 · subst h1; simp at hw; subst hw
   simp -implicitDefEqProofs[i70,r70]; exact cv_id
 by_cases h2:op=2
 · subst h2; simp at hw; subst hw
   simp -implicitDefEqProofs[i70,r70]; exact cv_id
 by_cases h3:op=3
 · subst h3; simp at hw; subst hw
   simp -implicitDefEqProofs[i70,r70]; exact cv_id
 by_cases h4:op=4
 · subst h4; simp at hw; subst hw
   simp -implicitDefEqProofs[i70,r70]; exact cv_id
 by_cases h5:op=20
 · subst h5; simp at hw; subst hw
   simp -implicitDefEqProofs[i70,r70]; exact cv_id
 rw[if_neg (by omega),if_neg (by omega),if_neg h5]at hw
 by_cases h6:5≤op
 · by_cases h7:op≤19
   · rw[if_pos (by omega)]at hw; subst hw
     simp -implicitDefEqProofs[i70,r70,h1,h2,h3,h4,h5,h6,h7]; exact cv_id
   · rw[if_neg (by omega)]at hw; subst hw
     simp -implicitDefEqProofs[i70,r70,h1,h2,h3,h4,h5,h6,h7]; exact cv_id
 · rw[if_neg (by omega)]at hw; subst hw
   simp -implicitDefEqProofs[i70,r70,h1,h2,h3,h4,h5,h6]; exact cv_id
theorem ok38 (op:Int):Ok Tryz.prog 38 [i64 op] H (.ret (i64 (opN op))) H:=by
 refine ok_fn hm Tryz.func38 c38 (by simp) fun hcl => ?_
 simp -implicitDefEqProofs[i38,r38]
 refine call_go (ok70 op) ?_
 simp -implicitDefEqProofs
 exact cv_id
end
end Go.Proofs.YtcejichidnlicaaGreatDoor
namespace Go.Proofs.YtcejichidnlicaaGreatDoor
open Go.Ab
variable [FrEnv]
end Go.Proofs.YtcejichidnlicaaGreatDoor
namespace Go.Proofs.YtcejichidnlicaaGreatDoor
open Go.Ab
variable [FrEnv]
end Go.Proofs.YtcejichidnlicaaGreatDoor
namespace Go.Proofs.YtcejichidnlicaaGreatDoor
open Go.Ab
variable [FrEnv]
end Go.Proofs.YtcejichidnlicaaGreatDoor
namespace Go.Proofs.YtcejichidnlicaaGreatDoor
open Go.Ab
variable [FrEnv]
def exS (l:List Ex):SV:=.slc (Ex.cL l) l.length
mutual
def sizE:Ex->Int->Int
 | .mk _ _ _ l _,m=>sizL l m 1
def sizL:List Ex->Int->Int->Int
 | [],_,n=>n
 | e::r,m,n=>if n≤m then sizL r m (n+sizE e (m-n))else n
end
mutual
theorem sizE_bd:∀ (e:Ex) (m:Int),1≤sizE e m∧(sizE e m≤m+1∨sizE e m=1)
 | .mk _ _ _ l _,m=>by
  unfold sizE
  have:=sizL_bd l m 1
  omega
theorem sizL_bd:∀ (l:List Ex) (m n:Int),n≤sizL l m n∧(sizL l m n≤m+1∨sizL l m n=n)
 | [],m,n=>by simp[sizL]
 | e::r,m,n=>by
  unfold sizL
  by_cases h:n≤m
  · rw[if_pos h]
    have h1:=sizE_bd e (m-n)
    have h2:=sizL_bd r m (n+sizE e (m-n))
    omega
  · rw[if_neg h]; omega
end
section
variable {H:List AO}
theorem loop7 {l:List Ex} {m:Int} (hm1:m≤1000000000) (hl:l.length<4611686018427387904) (hIH:∀ e∈l,∀ (H:List AO) (m':Int),0≤m'->m'≤1000000000->Ok Tryz.prog 7 [e.v,i64 m'] H (.ret (i64 (sizE e m'))) H) {A:AO} (hA:A.live=true∧A.ver=0∧∃ a b c d,A.cells=[a,b,c,exS l,d]) {N:Nat} {K:XE->Env->List AO->Prop} {res:Int}
 (hexit:∀ env G,env.get 5=i64 res->K (.exit 0) env (H++A::G)) :
 ∀ (k i:Nat) (n:Int) (G:List AO) (env:Env),i+k=l.length->1≤n->n≤1000000001->sizL (l.drop i) m n=res->env.get 1=i64 m->env.get 2=rp H.length->env.get 5=i64 n->env.get 6=i64 i →
  LI Tryz.prog N drawB l7_0 env (H++A::G) K:=by
 obtain⟨hA1,hA2,a,b,c,d,hA3⟩:=hA
 obtain⟨cs,T,ver,lv⟩:=A
 simp only at hA1 hA2 hA3
 subst hA1 hA2 hA3
 intro k
 induction k with
 | zero =>
  intro i n G env hi hn1 hn2 hr h1 h2 h5 h6
  refine li_go hm l7_0.eq_1 ?_
  have e:i=l.length:=by omega
  subst e
  rw[List.drop_length]at hr
  have hr:n=res:=hr
  subst hr
  simp -implicitDefEqProofs[h1,h2,h5,h6,rp,exS]
  exact hexit _ _ (by simp[h5])
 | succ k ih =>
  intro i n G env hi hn1 hn2 hr h1 h2 h5 h6
  refine li_go hm l7_0.eq_1 ?_
  have hlt:i<l.length:=by omega
  have hlt':(i:Int)<l.length:=by omega
  rw[List.drop_eq_getElem_cons hlt,sizL]at hr
  have hg:=exL_get hlt
  have hlen:=exL_len l
  have h9:=hIH l[i] (List.getElem_mem hlt)
  have hbd:=sizE_bd l[i]
  generalize l[i]=e at hr hg h9 hbd
  by_cases hnm:n≤m
  · rw[if_pos hnm]at hr
    have w1:IntKind.i64.wrap (m-n)=m-n:=wrap_id (by omega) (by omega)
    have hb:=hbd (m-n)
    simp -implicitDefEqProofs[h1,h2,h5,h6,rp,exS,hlt,hlt',hnm,hg,hlen,w1]
    refine⟨by omega,call_go (h9 _ (m-n) (by omega) (by omega)) ?_⟩
    generalize sizE e (m-n)=z at hr hb
    have w2:IntKind.i64.wrap (n+z)=n+z:=wrap_id (by omega) (by omega)
    simp -implicitDefEqProofs[h1,h2,h5,h6,rp,exS,w2]
    refine ih (i+1) (n+z) G _ (by omega) (by omega) (by omega) hr ?_ ?_ ?_ ?_
    all_goals simp[h1,h2,h5,h6,rp,exS,wrap_suc (show i<9223372036854775807 by omega)]
  · rw[if_neg hnm]at hr
    subst hr
    simp -implicitDefEqProofs[h1,h2,h5,h6,rp,exS,hlt,hlt',hnm]
    exact hexit _ _ (by simp[h5])
mutual
def Ex.lim:Ex->Prop
 | .mk _ _ _ l _=>l.length<4611686018427387904∧Ex.limL l
def Ex.limL:List Ex->Prop
 | []=>True
 | e::r=>e.lim∧Ex.limL r
end
mutual
theorem ok7:∀ (e:Ex),e.lim->∀ (H:List AO) (m:Int),0≤m->m≤1000000000->Ok Tryz.prog 7 [e.v,i64 m] H (.ret (i64 (sizE e m))) H
 | .mk op n nm l p,he,H,m,h0,h1=>by
  have hIH:=ok9L l (by unfold Ex.lim at he; exact he.2)
  have hl:l.length<4611686018427387904:=by unfold Ex.lim at he; exact he.1
  refine ok_fn hm Tryz.func7 c7 (by simp) fun hcl => ?_
  simp -implicitDefEqProofs[i7,r7,Ex.v,Ex.c]
  refine LI.cong (H':=H++⟨[i64 op,i64 n,st (B nm),exS l,i64 p],24,0,true⟩::[]) (by simp[exS]) ?_
  refine loop7 h1 hl hIH ⟨rfl,rfl,_,_,_,_,rfl⟩ (res:=sizL l m 1) (fun env G h5 => ?_) l.length 0 1 [] _ (by omega) (by omega) (by omega) rfl ?_ ?_ ?_ ?_
  · simp -implicitDefEqProofs[h5]
    refine cv_fz 2 hcl rfl ?_
    simp[sizE]
  all_goals simp[rp]
theorem ok9L:∀ (l:List Ex),Ex.limL l->∀ e∈l,∀ (H:List AO) (m:Int),0≤m->m≤1000000000->Ok Tryz.prog 7 [e.v,i64 m] H (.ret (i64 (sizE e m))) H
 | [],_,_,h=>by cases h
 | e::r,hl,x,hx=>by
  unfold Ex.limL at hl
  by_cases hh:x=e
  · rw[hh]; exact ok7 e hl.1
  · exact ok9L r hl.2 x (by simpa[hh]using hx)
end
end
end Go.Proofs.YtcejichidnlicaaGreatDoor
namespace Go.Proofs.YtcejichidnlicaaGreatDoor
open Go.Ab
variable [FrEnv]
def xyN:List (List UInt8):=[[120],[121]]
def xyV:List Int:=[5,-2]
section
variable {H:List AO} {l:List UInt8}
theorem ok16 (hl:l.length<4611686018427387904):Ok Tryz.prog 16 [st (B l)] H (.ret (exprR l).1.v) H:=by
 have h:=fun H=>ok31 (H:=H) hl
 generalize exprR l=q at h ⊢
 obtain⟨⟨op,n,nm,es,p⟩,e,at_⟩:=q
 simp only[Ex.v,Ex.c]at h
 refine ok_fn hm Tryz.func16 c16 (by simp) fun hcl => ?_
 simp -implicitDefEqProofs[i16,r16,Ex.v,Ex.c]
 refine call_go (h _) ?_
 simp -implicitDefEqProofs[fltV]
 refine cv_fz 4 hcl rfl ?_
 simp
theorem give2 {f:FuncId} {x:SV} (ss ts:List SV) {T1 T2:TypeId} {out:Out} (hx:x.under H.length=true) (h:∀ G,Ok Tryz.prog f [x,.slc ss ss.length,.slc ts ts.length] G out G) :
 Ok Tryz.prog f [x,.own H.length 0 ss.length 1 0,.own (H.length+1) 0 ts.length 1 0] (H++[⟨ss,T1,0,true⟩,⟨ts,T2,0,true⟩]) out (H++[AO.dead ⟨ss,T1,0,true⟩,AO.dead ⟨ts,T2,0,true⟩]):=by
 refine Ok.give H.length 1 (o:=⟨ss,T1,0,true⟩) (by simp) rfl ?_
 have a1:Ab.setObj (H++[⟨ss,T1,0,true⟩,⟨ts,T2,0,true⟩]) H.length AO.dead=H++[AO.dead ⟨ss,T1,0,true⟩,⟨ts,T2,0,true⟩]:=by
  rw[setObj_some (o:=⟨ss,T1,0,true⟩) (by simp)]; simp
 rw[a1]
 refine Ok.give (H.length+1) 1 (o:=⟨ts,T2,0,true⟩) (by simp) rfl ?_
 have e1:Ab.setObj (H++[AO.dead ⟨ss,T1,0,true⟩,⟨ts,T2,0,true⟩]) (H.length+1) AO.dead=H++[AO.dead ⟨ss,T1,0,true⟩,AO.dead ⟨ts,T2,0,true⟩]:=by
  rw[setObj_some (o:=⟨ts,T2,0,true⟩) (by simp)]; simp
 rw[e1]
 have hx2:x.under (H.length+1)=true:=SV.under_mono (by omega) _ hx
 have g1:SV.gv H.length 0 ss 1 x=x:=gv_under (Nat.le_refl _) 1 x hx
 have g2:SV.gv (H.length+1) 0 ts 1 x=x:=gv_under (Nat.le_refl _) 1 x hx2
 simp only[List.map_cons,List.map_nil,g1,g2,gv_own,gv_slc]
 simpa using h _
theorem ok15v (hl:l.length<4611686018427387904) (hh:decide ((exprR l).1.hgt≤100000)=true) {k n:Int} (hr:evalF xyN xyV (exprR l).1=.ok (k,n)):Ok Tryz.prog 15 [st (B l),i64 k,i64 n,i64 0] H (.ret (bl true)) H:=by
 have h16:=fun H=>ok16 (H:=H) hl
 have h9:=fun H=>ok9 (H:=H) (ns:=xyN) (vs:=xyV) (of_decide_eq_true hh) (by decide)
 rw[hr]at h9
 have hv:∀ n,(exprR l).1.v.under n=true:=fun n=>Ex.und_v n _
 generalize (exprR l).1.v=x at h16 h9 hv
 refine ok_fn hm Tryz.func15 c15 (by simp) fun hcl => ?_
 simp -implicitDefEqProofs[i15,r15]
 refine call_go (h16 _) ?_
 simp -implicitDefEqProofs
 refine call_go (give2 (H:=H) (wds xyN) (ints xyV) (hv _) h9) ?_
 simp -implicitDefEqProofs[retV]
 refine cv_fz 4 hcl rfl ?_
 simp
theorem ok15e (hl:l.length<4611686018427387904) (hh:decide ((exprR l).1.hgt≤100000)=true) {w:Int} (hr:evalF xyN xyV (exprR l).1=.error w):Ok Tryz.prog 15 [st (B l),i64 0,i64 0,i64 w] H (.ret (bl true)) H:=by
 have h16:=fun H=>ok16 (H:=H) hl
 have h9:=fun H=>ok9 (H:=H) (ns:=xyN) (vs:=xyV) (of_decide_eq_true hh) (by decide)
 rw[hr]at h9
 have hv:∀ n,(exprR l).1.v.under n=true:=fun n=>Ex.und_v n _
 generalize (exprR l).1.v=x at h16 h9 hv
 refine ok_fn hm Tryz.func15 c15 (by simp) fun hcl => ?_
 simp -implicitDefEqProofs[i15,r15]
 refine call_go (h16 _) ?_
 simp -implicitDefEqProofs
 refine call_go (give2 (H:=H) (wds xyN) (ints xyV) (hv _) h9) ?_
 simp -implicitDefEqProofs[retV]
 refine cv_fz 4 hcl rfl ?_
 simp
end
end Go.Proofs.YtcejichidnlicaaGreatDoor
namespace Go.Proofs.YtcejichidnlicaaGreatDoor
open Go.Ab
variable [FrEnv]
structure Fo where
 e:Ex
 cl:Bool
 v:Int×Int
 er:Int
def Fo.c (f:Fo):List SV:=f.e.c++[bl f.cl,i64 f.v.1,i64 f.v.2,i64 f.er]
@[simp] theorem Fo.c_len (f:Fo):f.c.length=9:=by simp[Fo.c]
def vrF (f:Fo):Vr:=if f.er≠0 then .error f.er else .ok f.v
def setR (e:Ex) (r:Vr):Fo:=match r with
 | .ok v=>⟨e,true,v,0⟩
 | .error x=>⟨e,true,(0,0),x⟩
def litE (n p:Int):Ex:=if n<0 then .mk 3 0 [] [.mk 1 (-n) [] [] p] p else .mk 1 n [] [] p
section
variable {H:List AO}
theorem ok36 {n p:Int} (hn : -1000000000000≤n∧n≤1000000000000):Ok Tryz.prog 36 [i64 n,i64 p] H (.ret (litE n p).v) H:=by
 refine ok_fn hm Tryz.func36 c36 (by simp) fun hcl => ?_
 have hw:IntKind.i64.wrap (-n) = -n:=wrap_id (by omega) (by omega)
 unfold litE
 by_cases h:n<0
 · rw[if_pos h]
   simp -implicitDefEqProofs[i36,r36,h,hw,Ex.v,Ex.c,Ex.cL]
   refine⟨rfl,?_⟩
   refine Cv.le (cv_fz (r1:=.agg [i64 3,i64 0,st (B []),.own (H.length+1) 0 1 5 0,i64 p]) (L:=[⟨[i64 3,i64 0,st (B []),.own (H.length+1) 0 1 5 0,i64 p],24,0,true⟩,⟨[i64 1,i64 (-n),st (B []),.val (.slice none 0 0),i64 p],24,0,true⟩]) (r:=.agg [i64 3,i64 0,st (B []),.slc [i64 1,i64 (-n),st (B []),.val (.slice none 0 0),i64 p] 1,i64 p]) 3 hcl rfl (by simp)) ?_
   exact le_agg (leL.cons (SV.le.refl _) (leL.cons (SV.le.refl _) (leL.cons (SV.le.refl _) (leL.cons (le_slc (leL.cons (SV.le.refl _) (leL.cons (SV.le.refl _) (leL.cons (SV.le.refl _) (leL.cons le_nil (leL.cons (SV.le.refl _) leL.nil))))) 1) (leL.cons (SV.le.refl _) leL.nil)))))
 · rw[if_neg h]
   simp -implicitDefEqProofs[i36,r36,h,Ex.v,Ex.c,Ex.cL]
   refine⟨rfl,?_⟩
   refine Cv.le (cv_fz (r1:=.agg [i64 1,i64 n,st ⟨#[]⟩,.val (.slice none 0 0),i64 p]) (r:=.agg [i64 1,i64 n,st ⟨#[]⟩,.val (.slice none 0 0),i64 p]) 3 hcl rfl (by simp)) ?_
   exact leaf_le 1 n [] p
theorem ok102 {j:Nat} {op n:Int} {nm:List UInt8} {l:List Ex} {p:Int} (hj:H[j]? = some ⟨(Ex.mk op n nm l p).c,24,0,true⟩):Ok Tryz.prog 102 [rp j] H (outV (numF n)) H:=by
 have hjl:=getElem?_lt hj
 have e1:=fun L=>oc_app hj rfl rfl L
 simp only[Ex.c]at e1
 have h58:=fun H=>ok58 (H:=H) n
 refine ok_fn hm Tryz.func102 c102 (by simp[rp,hjl]) fun hcl => ?_
 simp -implicitDefEqProofs[i102,r102,rp,e1]
 refine call_go (h58 _) ?_
 generalize numF n=y
 cases y with
 | error e =>
  simp -implicitDefEqProofs[outV]
  exact cv_fz 6 hcl rfl rfl
 | ok v =>
  simp -implicitDefEqProofs[outV]
  exact cv_fz 6 hcl rfl rfl
theorem foV_v {ps:List Fo} {i:Nat} (hi:i<ps.length):List.take 2 (List.drop (i*9+6) (rws Fo.c ps))=[i64 ps[i].v.1,i64 ps[i].v.2]:=by
 rw[←List.drop_drop,rws_at Fo.c_len hi]
 have:ps[i].c=ps[i].e.c++[bl ps[i].cl,i64 ps[i].v.1,i64 ps[i].v.2,i64 ps[i].er]:=rfl
 rw[this,List.append_assoc,List.drop_append]
 have h2:List.drop 6 ps[i].e.c=[]:=List.drop_of_length_le (by simp)
 simp[h2]
theorem foV_er {ps:List Fo} {i:Nat} (hi:i<ps.length):(rws Fo.c ps)[i*9+8]? = some (i64 ps[i].er):=by
 rw[rws_get Fo.c_len hi (by omega)]
 simp[Fo.c]
theorem ok104 {r q v:Nat} {ps:List Fo} (hr:H[r]? = some ⟨rws Fo.c ps,98,v,true⟩) (hq:H[q]? = some ⟨[.own r 0 ps.length 9 v],123,0,true⟩) {i:Nat} (hi:i<ps.length):Ok Tryz.prog 104 [i64 i,rp q] H (outV (vrF ps[i])) H:=by
 have hrl:=getElem?_lt hr
 have hql:=getElem?_lt hq
 have e1:=fun L=>oc_app hq rfl rfl L
 have e2:∀ L,objCells (H++L) r v=rws Fo.c ps:=fun L=>objCells_of (o:=⟨rws Fo.c ps,98,v,true⟩) (by rw[List.getElem?_append_left hrl]; exact hr) rfl
 have e3:=foV_v hi
 have e4:=foV_er hi
 have e5:=rws_len Fo.c_len ps
 have hi':(i:Int)<ps.length:=by omega
 refine ok_fn hm Tryz.func104 c104 (by simp[rp,hql]) fun hcl => ?_
 simp -implicitDefEqProofs[i104,r104,rp,e1,e2,e3,e4,e5,hi,hi']
 refine⟨by omega,?_⟩
 unfold vrF
 by_cases he:ps[i].er=0
 · rw[if_pos he]
   simp -implicitDefEqProofs[outV,he]
   exact⟨by omega,cv_fz 6 hcl rfl rfl⟩
 · rw[if_neg he]
   simp -implicitDefEqProofs[outV,he]
   exact⟨by omega,cv_fz 6 hcl rfl rfl⟩
theorem ok103 {op n:Int} {nm:List UInt8} {l:List Ex} {p:Int} {ns:List (List UInt8)} {vs:List Int} {j k r q v:Nat} {ps:List Fo} (hj:H[j]? = some ⟨[macV ns vs],52,0,true⟩) (hk:H[k]? = some ⟨(Ex.mk op n nm l p).c,24,0,true⟩)
 (hr:H[r]? = some ⟨rws Fo.c ps,98,v,true⟩) (hq:H[q]? = some ⟨[.own r 0 ps.length 9 v],123,0,true⟩) (hop:3≤op∧op≤20) (hw:(ps.length:Int)=opN op) (hsm:∀ i n,wAt (ps.map vrF) i=.ok (1,n)->Sm n) :
 Ok Tryz.prog 103 [rp j,rp k,rp q] H (outV (appF op (ps.map vrF))) H:=by
 have hjl:=getElem?_lt hj
 have hkl:=getElem?_lt hk
 have hrl:=getElem?_lt hr
 have hql:=getElem?_lt hq
 have e1:=fun L=>oc_app hj rfl rfl L
 have e2:=fun L=>oc_app hk rfl rfl L
 simp only[Ex.c]at e2
 have hopr:∀ L,Opr (H++L) 104 [rp q] (ps.map vrF):=fun L=>by
  refine⟨fun M i hi => ?_,by simp[rp]; omega⟩
  have hi':i<ps.length:=by simpa using hi
  have:wAt (ps.map vrF) i=vrF ps[i]:=by unfold wAt; simp[hi']
  rw[this]
  exact ok104 (by rw[List.append_assoc,List.getElem?_append_left hrl]; exact hr) (by rw[List.append_assoc,List.getElem?_append_left hql]; exact hq) hi'
 have h59:=fun L=>ok59 ns vs (op:=op) (hopr L) hop (by simpa using hw) hsm trivial
 refine ok_fn hm Tryz.func103 c103 (by simp[rp,hjl,hkl,hql]) fun hcl => ?_
 simp only[rp]at h59
 simp -implicitDefEqProofs[i103,r103,rp,e1,e2]
 refine call_go (h59 _) ?_
 generalize appF op (ps.map vrF)=y
 cases y with
 | error e =>
  simp -implicitDefEqProofs[outV]
  exact cv_fz 6 hcl rfl rfl
 | ok v =>
  simp -implicitDefEqProofs[outV]
  exact cv_fz 6 hcl rfl rfl
end
end Go.Proofs.YtcejichidnlicaaGreatDoor
namespace Go.Proofs.YtcejichidnlicaaGreatDoor
open Go.Ab
variable [FrEnv]
def zFo:Fo:=⟨zE,false,(0,0),0⟩
def opFo (op k:Int) (nm:List UInt8) (p:Int) (ps:List Fo):Fo :=
 let f:=if ps.all Fo.cl=true then setR (.mk op k nm (ps.map Fo.e) p) (appF op (ps.map vrF))else⟨.mk op k nm (ps.map Fo.e) p,false,(0,0),0⟩
 if ps.all Fo.cl=true∧f.er=0∧f.v.1=1 ∧ -1000000000≤f.v.2∧f.v.2≤1000000000 then⟨litE f.v.2 p,f.cl,f.v,f.er⟩
 else if op=20∧(ps.getD 0 zFo).cl=true∧(ps.getD 0 zFo).er=0 then ps.getD (2-(ps.getD 0 zFo).v.2).toNat zFo
 else f
mutual
def foldE:Ex->Fo
 | .mk op k nm l p =>
  if op=2 then⟨.mk op k nm [] p,false,(0,0),0⟩
  else if op=1 then setR (.mk op k nm [] p) (numF k)
  else opFo op k nm p (foldL l)
def foldL:List Ex->List Fo
 | []=>[]
 | e::r=>foldE e::foldL r
end
theorem foldL_map:∀ l:List Ex,foldL l=l.map foldE
 | []=>by rw[foldL]; rfl
 | e::r=>by rw[foldL,foldL_map r]; rfl
theorem foldL_len (l:List Ex):(foldL l).length=l.length:=by rw[foldL_map]; simp
def wdP (op:Int) (ps:List Fo):Bool:=decide ((ps.length:Int)=opN op)&&(decide (3≤op∧op≤20)&&(ps.all (fun f=>decide (-1000000000000≤f.v.2∧f.v.2≤1000000000000))&&(!decide (op=20)||decide ((ps.getD 0 zFo).v.2=0∨(ps.getD 0 zFo).v.2=1))))
mutual
def wdE:Ex->Bool
 | .mk op _ _ l _=>decide (op=1∨op=2)||(wdL l&&wdP op (foldL l))
def wdL:List Ex->Bool
 | []=>true
 | e::r=>wdE e&&wdL r
end
theorem wdP_sm {op:Int} {ps:List Fo} (h:wdP op ps=true):∀ i n,wAt (ps.map vrF) i=.ok (1,n)->Sm n:=by
 intro i n hi
 unfold wdP at h
 simp only[Bool.and_eq_true,List.all_eq_true,decide_eq_true_eq]at h
 unfold wAt at hi
 by_cases hl:i<ps.length
 · have hm:=h.2.2.1 ps[i] (List.getElem_mem hl)
   have:(ps.map vrF).getD i (.error 3)=vrF ps[i]:=by simp[hl]
   rw[this]at hi
   unfold vrF at hi
   split at hi
   · cases hi
   · have:=Except.ok.inj hi
     rw[this]at hm
     exact hm
 · simp[hl]at hi
theorem Fo.c_9 (f:Fo):List.take 9 f.c=f.c:=List.take_of_length_le (by simp)
theorem Fo.c_5 (f:Fo):List.take 5 f.c=f.e.c:=by simp[Fo.c]
theorem Fo.c_cl (f:Fo) (h:5<f.c.length):f.c[5]'h=bl f.cl:=by simp[Fo.c]
theorem Fo.c_cell (f:Fo):cellsOk f.c:=by
 intro s hs
 simp only[Fo.c,List.mem_append,List.mem_cons,List.not_mem_nil,or_false]at hs
 rcases hs with h | rfl | rfl | rfl | rfl
 · obtain⟨⟨op,n,nm,l,p⟩,_,_,_⟩:=f
   simp only[Ex.c,List.mem_cons,List.not_mem_nil,or_false]at h
   rcases h with rfl | rfl | rfl | rfl | rfl<;>rfl
 all_goals rfl
theorem rws_one {α:Type} (f:α->List SV) (x:α):rws f [x]=f x:=by simp[rws]
section
variable {H:List AO} {ns:List (List UInt8)} {vs:List Int} {op k p:Int} {nm:List UInt8} {l:List Ex}
abbrev fH (n:Nat) (ns:List (List UInt8)) (vs:List Int) (op k p:Int) (nm:List UInt8) (l:List Ex) (ps:List Fo) (es:List Ex) (G:List AO):List AO :=
 ⟨[macV ns vs],52,0,true⟩::⟨[i64 op,i64 k,st (B nm),.slc (Ex.cL l) l.length,i64 p],24,0,true⟩::⟨[i64 0,i64 0,st (B []),.val (.slice none 0 0),i64 0,bl false,i64 0,i64 0,i64 0],98,0,true⟩ ::
 ⟨[i64 op,i64 k,st (B nm),.own (n+6) 0 es.length 5 es.length,i64 p,bl (ps.all Fo.cl),i64 0,i64 0,i64 0],98,0,true⟩::⟨rws Fo.c ps,98,ps.length,true⟩::⟨[.own (n+4) 0 ps.length 9 ps.length],123,0,true⟩::⟨Ex.cL es,24,es.length,true⟩::G
theorem loop78 (hcl:closed H) {d:Nat} (hd:d<100000) (hl:l.length≤3) (hIH:∀ e∈l,∀ H,Ok Tryz.prog 78 [macV ns vs,e.v,i64 ((d+1:Nat):Int)] H (.ret (.agg (foldE e).c)) H) {N:Nat} {K:XE->Env->List AO->Prop}
 (hexit:∀ env G,env.get 3=.ptr (.own H.length 0 0 0 0) 0->env.get 4=.ptr (.own (H.length+1) 0 0 0 0) 0->env.get 6=.ptr (.own (H.length+2) 0 0 0 0) 0->env.get 7=.ptr (.own (H.length+3) 0 0 0 0) 0->env.get 8=.ptr (.own (H.length+5) 0 0 0 0) 0->K (.exit 0) env (H++fH H.length ns vs op k p nm l (foldL l) ((foldL l).map Fo.e) G)) :
 ∀ (m i:Nat) (ps:List Fo) (G:List AO) (env:Env),i+m=l.length->ps.length=i->ps++foldL (l.drop i)=foldL l->env.get 2=i64 d->env.get 3=.ptr (.own H.length 0 0 0 0) 0->env.get 4=.ptr (.own (H.length+1) 0 0 0 0) 0->env.get 6=.ptr (.own (H.length+2) 0 0 0 0) 0->env.get 7=.ptr (.own (H.length+3) 0 0 0 0) 0->env.get 8=.ptr (.own (H.length+5) 0 0 0 0) 0 →
  env.get 43=.slc (Ex.cL l) l.length->env.get 44=i64 l.length->env.get 45=i64 i->LI Tryz.prog N drawB l78_0 env (H++fH H.length ns vs op k p nm l ps (ps.map Fo.e) G) K:=by
 intro m
 induction m with
 | zero =>
  intro i ps G env hi hp hq h2 h3 h4 h6 h7 h8 h43 h44 h45
  refine li_go hm l78_0.eq_1 ?_
  have e:i=l.length:=by omega
  subst e
  rw[List.drop_length,foldL,List.append_nil]at hq
  subst hq
  simp -implicitDefEqProofs[h2,h3,h4,h6,h7,h8,h43,h44,h45]
  refine hexit _ G ?_ ?_ ?_ ?_ ?_<;>simp
 | succ m ih =>
  intro i ps G env hi hp hq h2 h3 h4 h6 h7 h8 h43 h44 h45
  refine li_go hm l78_0.eq_1 ?_
  have hlt:i<l.length:=by omega
  have hlt':(i:Int)<l.length:=by omega
  have hg:=exL_get hlt
  have hcl':=exL_len l
  have w1:IntKind.i64.wrap ((d:Int)+1)=((d+1:Nat):Int):=wrap_succ (by omega)
  rw[List.drop_eq_getElem_cons hlt,foldL]at hq
  have hIH':=hIH l[i] (List.getElem_mem hlt)
  simp -implicitDefEqProofs[h2,h3,h4,h6,h7,h8,h43,h44,h45,hlt,hlt',hg,hcl']
  refine⟨by omega,call_go (by rw[w1]; exact hIH' _) ?_⟩
  simp -implicitDefEqProofs[h2,h3,h4,h6,h7,h8,h43,h44,h45,hlt,hlt',hg,hcl',Fo.c_9,Fo.c_5,Fo.c_cl,Fo.c_cell]
  have hpl:(ps++[foldE l[i]]).length=ps.length+1:=by simp
  refine⟨by omega,by omega,rws_len Fo.c_len ps,by omega,by omega,by rw[exL_len]; simp,?_⟩
  refine LI.cong ?_ (ih (i+1) (ps++[foldE l[i]]) (G++[⟨l[i].c,24,0,true⟩,⟨(foldE l[i]).c,98,0,true⟩,⟨(foldE l[i]).c,98,0,true⟩,⟨(foldE l[i]).e.c,24,0,true⟩]) _ (by omega) (by omega) (by rw[List.append_assoc]; exact hq) ?_ ?_ ?_ ?_ ?_ ?_ ?_ ?_ ?_)
  · simp[fH,rws_app,rws_one,exL_app,Ex.cL]
  all_goals simp[h2,h3,h4,h6,h7,h8,h43,h44,wrap_suc (show i<9223372036854775807 by omega)]
end
end Go.Proofs.YtcejichidnlicaaGreatDoor
namespace Go.Proofs.YtcejichidnlicaaGreatDoor
open Go.Ab
variable [FrEnv]
def t78:IC:=(.seq
 (.seq
 (.reg [
 ⟨(some 112),none,.p (.fa 0 (.t 4))⟩,
 ⟨(some 113),none,.p (.ld1 (.t 112))⟩,
 ⟨(some 114),none,.p (.bin .eql (.i .i64) (.t 113) (.c (i64 20)))⟩,
 ⟨(some 115),none,.p (.mov (.t 114))⟩,
 ⟨(some 116),(some (115,true)),.p (.ld1 (.t 8))⟩,
 ⟨(some 117),(some (115,true)),.p (.ia 9 (.t 116) (.c (i64 0)))⟩,
 ⟨(some 118),(some (115,true)),.p (.fa 5 (.t 117))⟩,
 ⟨(some 119),(some (115,true)),.p (.ld1 (.t 118))⟩,
 ⟨(some 120),none,.p (.pick (.t 115) (.t 119) (.c (bl false)))⟩,
 ⟨(some 121),none,.p (.mov (.t 120))⟩,
 ⟨(some 122),(some (121,true)),.p (.ld1 (.t 8))⟩,
 ⟨(some 123),(some (121,true)),.p (.ia 9 (.t 122) (.c (i64 0)))⟩,
 ⟨(some 124),(some (121,true)),.p (.fa 8 (.t 123))⟩,
 ⟨(some 125),(some (121,true)),.p (.ld1 (.t 124))⟩,
 ⟨(some 126),(some (121,true)),.p (.bin .eql (.i .i64) (.t 125) (.c (i64 0)))⟩,
 ⟨(some 127),none,.p (.pick (.t 121) (.t 126) (.c (bl false)))⟩])
 (.cond (.t 127)
 (.seq
 (.drw [0,1,2,3,4,5,6,7,8,9] [
 ⟨(some 128),none,.p (.ld1 (.t 8))⟩,
 ⟨(some 129),none,.p (.ld1 (.t 8))⟩,
 ⟨(some 130),none,.p (.ia 9 (.t 129) (.c (i64 0)))⟩,
 ⟨(some 131),none,.p (.fa 6 (.t 130))⟩,
 ⟨(some 132),none,.p (.fa 1 (.t 131))⟩,
 ⟨(some 133),none,.p (.ld1 (.t 132))⟩,
 ⟨(some 134),none,.p (.bin .sub (.i .i64) (.c (i64 2)) (.t 133))⟩,
 ⟨(some 135),none,.p (.ia 9 (.t 128) (.t 134))⟩,
 ⟨(some 136),none,.p (.ldn 9 (.t 135))⟩,
 ⟨none,none,.e (.st 9 (.t 6) (.t 136))⟩])
 .ret)
 .skip))
 (.seq
 (.reg [
 ⟨(some 137),none,.p (.ldn 9 (.t 7))⟩,
 ⟨none,none,.e (.st 9 (.t 6) (.t 137))⟩])
 .ret))
theorem t78_at:i78 =   (.seq
 (.reg [
 ⟨(some 3),none,.e (.box 52 (.t 0))⟩,
 ⟨(some 4),none,.e (.box 24 (.t 1))⟩,
 ⟨(some 6),none,.e (.alc 98 [i64 0,i64 0,st ⟨#[]⟩,.val (.slice none 0 0),i64 0,bl false,i64 0,i64 0,i64 0])⟩])
 (.seq
 (.seq
 (.reg [
 ⟨(some 12),none,.p (.mov (.t 2))⟩,
 ⟨(some 13),none,.p (.bin .eql (.i .i64) (.t 12) (.c (i64 100000)))⟩])
 (.cond (.t 13)
 (.seq
 (.reg [
 ⟨(some 14),none,.p (.mkf (.func 101) [] [(.t 3),(.t 4)])⟩,
 ⟨(some 15),none,.e (.call (.c (.fn (.func 100) [] [])) [(.t 14)])⟩,
 ⟨none,none,.e (.st 9 (.t 6) (.t 15))⟩])
 .ret)
 .skip))
 (.seq
 (.reg [
 ⟨(some 16),none,.p (.ldn 5 (.t 4))⟩,
 ⟨(some 17),none,.p (.fa 0 (.t 4))⟩,
 ⟨(some 18),none,.p (.ld1 (.t 17))⟩,
 ⟨(some 19),none,.p (.bin .neq (.i .i64) (.t 18) (.c (i64 2)))⟩,
 ⟨(some 20),none,.p (.bld [i64 0,i64 0,st ⟨#[]⟩,.val (.slice none 0 0),i64 0,bl false,i64 0,i64 0,i64 0] [(0,5,(.t 16)),(5,1,(.t 19))])⟩,
 ⟨(some 7),none,.e (.alc 98 [i64 0,i64 0,st ⟨#[]⟩,.val (.slice none 0 0),i64 0,bl false,i64 0,i64 0,i64 0])⟩,
 ⟨none,none,.e (.st 9 (.t 7) (.t 20))⟩])
 (.seq
 (.reg [
 ⟨(some 21),none,.p (.fa 0 (.t 7))⟩,
 ⟨(some 22),none,.p (.fa 3 (.t 21))⟩,
 ⟨none,none,.e (.st 1 (.t 22) (.c (.val (.slice none 0 0))))⟩])
 (.seq
 (.seq
 (.reg [
 ⟨(some 23),none,.p (.fa 0 (.t 4))⟩,
 ⟨(some 24),none,.p (.ld1 (.t 23))⟩,
 ⟨(some 25),none,.p (.bin .eql (.i .i64) (.t 24) (.c (i64 2)))⟩])
 (.cond (.t 25)
 (.seq
 (.reg [
 ⟨(some 26),none,.p (.ldn 9 (.t 7))⟩,
 ⟨none,none,.e (.st 9 (.t 6) (.t 26))⟩])
 .ret)
 .skip))
 (.seq
 (.seq
 (.reg [
 ⟨(some 27),none,.p (.fa 0 (.t 4))⟩,
 ⟨(some 28),none,.p (.ld1 (.t 27))⟩,
 ⟨(some 29),none,.p (.bin .eql (.i .i64) (.t 28) (.c (i64 1)))⟩])
 (.cond (.t 29)
 (.seq
 (.reg [
 ⟨(some 31),none,.p (.mkf (.func 102) [] [(.t 4)])⟩,
 ⟨(some 32),none,.e (.call (.c (.fn (.func 26) [] [])) [(.t 31)])⟩,
 ⟨(some 30),none,.p (.mov (.t 32))⟩,
 ⟨(some 33),none,.p (.ext (.t 30) 0)⟩,
 ⟨(some 34),none,.p (.ext (.t 30) 1)⟩,
 ⟨(some 35),none,.p (.fa 6 (.t 7))⟩,
 ⟨none,none,.e (.st 2 (.t 35) (.t 33))⟩,
 ⟨(some 36),none,.p (.fa 8 (.t 7))⟩,
 ⟨none,none,.e (.st 1 (.t 36) (.t 34))⟩])
 (.seq
 (.reg [
 ⟨(some 37),none,.p (.ldn 9 (.t 7))⟩,
 ⟨none,none,.e (.st 9 (.t 6) (.t 37))⟩])
 .ret))
 .skip))
 (.seq
 (.reg [
 ⟨(some 38),none,.p (.fa 3 (.t 4))⟩,
 ⟨(some 39),none,.p (.ld1 (.t 38))⟩,
 ⟨(some 40),none,.p (.len (.t 39))⟩,
 ⟨(some 41),none,.e (.mks 98 9 96 [i64 0,i64 0,st ⟨#[]⟩,.val (.slice none 0 0),i64 0,bl false,i64 0,i64 0,i64 0] (.c (i64 0)) (.t 40))⟩,
 ⟨(some 8),none,.e (.alc 123 [.val (.slice none 0 0)])⟩,
 ⟨none,none,.e (.st 1 (.t 8) (.t 41))⟩])
 (.seq
 (.seq
 (.reg [
 ⟨(some 42),none,.p (.fa 3 (.t 4))⟩,
 ⟨(some 43),none,.p (.ld1 (.t 42))⟩,
 ⟨(some 44),none,.p (.len (.t 43))⟩,
 ⟨(some 45),none,.p (.mov (.c (i64 0)))⟩])
 (.blk 0
 (.loop l78_0)))
 (.seq
 (.seq
 (.reg [
 ⟨(some 75),none,.p (.fa 5 (.t 7))⟩,
 ⟨(some 76),none,.p (.ld1 (.t 75))⟩])
 (.cond (.t 76)
 (.seq
 (.reg [
 ⟨(some 78),none,.p (.mkf (.func 103) [] [(.t 3),(.t 4),(.t 8)])⟩,
 ⟨(some 79),none,.e (.call (.c (.fn (.func 26) [] [])) [(.t 78)])⟩,
 ⟨(some 77),none,.p (.mov (.t 79))⟩,
 ⟨(some 80),none,.p (.ext (.t 77) 0)⟩,
 ⟨(some 81),none,.p (.ext (.t 77) 1)⟩,
 ⟨(some 82),none,.p (.fa 6 (.t 7))⟩,
 ⟨none,none,.e (.st 2 (.t 82) (.t 80))⟩,
 ⟨(some 83),none,.p (.fa 8 (.t 7))⟩,
 ⟨none,none,.e (.st 1 (.t 83) (.t 81))⟩])
 (.seq
 (.reg [
 ⟨(some 84),none,.p (.fa 8 (.t 7))⟩,
 ⟨(some 85),none,.p (.ld1 (.t 84))⟩,
 ⟨(some 86),none,.p (.bin .eql (.i .i64) (.t 85) (.c (i64 0)))⟩,
 ⟨(some 87),none,.p (.mov (.t 86))⟩,
 ⟨(some 88),(some (87,true)),.p (.fa 6 (.t 7))⟩,
 ⟨(some 89),(some (87,true)),.p (.fa 0 (.t 88))⟩,
 ⟨(some 90),(some (87,true)),.p (.ld1 (.t 89))⟩,
 ⟨(some 91),(some (87,true)),.p (.bin .eql (.i .i64) (.t 90) (.c (i64 1)))⟩,
 ⟨(some 92),none,.p (.pick (.t 87) (.t 91) (.c (bl false)))⟩,
 ⟨(some 93),none,.p (.mov (.t 92))⟩,
 ⟨(some 94),(some (93,true)),.p (.fa 6 (.t 7))⟩,
 ⟨(some 95),(some (93,true)),.p (.fa 1 (.t 94))⟩,
 ⟨(some 96),(some (93,true)),.p (.ld1 (.t 95))⟩,
 ⟨(some 97),(some (93,true)),.p (.fa 6 (.t 7))⟩,
 ⟨(some 98),(some (93,true)),.p (.fa 1 (.t 97))⟩,
 ⟨(some 99),(some (93,true)),.p (.ld1 (.t 98))⟩,
 ⟨(some 100),(some (93,true)),.p (.neg .i64 (.t 99))⟩,
 ⟨(some 101),(some (93,true)),.p (.mm true .i64 (.t 96) (.t 100))⟩,
 ⟨(some 102),(some (93,true)),.p (.bin .leq (.i .i64) (.t 101) (.c (i64 1000000000)))⟩,
 ⟨(some 103),none,.p (.pick (.t 93) (.t 102) (.c (bl false)))⟩])
 (.cond (.t 103)
 (.seq
 (.reg [
 ⟨(some 104),none,.p (.fa 6 (.t 7))⟩,
 ⟨(some 105),none,.p (.fa 1 (.t 104))⟩,
 ⟨(some 106),none,.p (.ld1 (.t 105))⟩,
 ⟨(some 107),none,.p (.fa 4 (.t 4))⟩,
 ⟨(some 108),none,.p (.ld1 (.t 107))⟩,
 ⟨(some 109),none,.e (.call (.c (.fn (.func 36) [] [])) [(.t 106),(.t 108)])⟩,
 ⟨(some 110),none,.p (.fa 0 (.t 7))⟩,
 ⟨none,none,.e (.st 5 (.t 110) (.t 109))⟩])
 (.seq
 (.reg [
 ⟨(some 111),none,.p (.ldn 9 (.t 7))⟩,
 ⟨none,none,.e (.st 9 (.t 6) (.t 111))⟩])
 .ret))
 .skip)))
 .skip))
 t78))))))))):=rfl
abbrev gH (n:Nat) (ns:List (List UInt8)) (vs:List Int) (op k p:Int) (nm:List UInt8) (l:List Ex) (ps:List Fo) (es:List Ex) (b:Bool) (v1 v2 er:Int) (G:List AO):List AO :=
 ⟨[macV ns vs],52,0,true⟩::⟨[i64 op,i64 k,st (B nm),.slc (Ex.cL l) l.length,i64 p],24,0,true⟩::⟨[i64 0,i64 0,st (B []),.val (.slice none 0 0),i64 0,bl false,i64 0,i64 0,i64 0],98,0,true⟩ ::
 ⟨[i64 op,i64 k,st (B nm),.own (n+6) 0 es.length 5 es.length,i64 p,bl b,i64 v1,i64 v2,i64 er],98,0,true⟩::⟨rws Fo.c ps,98,ps.length,true⟩::⟨[.own (n+4) 0 ps.length 9 ps.length],123,0,true⟩::⟨Ex.cL es,24,es.length,true⟩::G
section
variable {H:List AO} {ns:List (List UInt8)} {vs:List Int} {op k p:Int} {nm:List UInt8} {l:List Ex}
theorem fo_le (op k:Int) (nm:List UInt8) (p:Int) (b:Bool) (v1 v2 er:Int):SV.le (.agg [i64 op,i64 k,st (B nm),.val (.slice none 0 0),i64 p,bl b,i64 v1,i64 v2,i64 er]) (.agg (Fo.c ⟨.mk op k nm [] p,b,(v1,v2),er⟩)) :=
 le_agg (leL.cons (SV.le.refl _) (leL.cons (SV.le.refl _) (leL.cons (SV.le.refl _) (leL.cons le_nil (leL.cons (SV.le.refl _) (leL.cons (SV.le.refl _) (leL.cons (SV.le.refl _) (leL.cons (SV.le.refl _) (leL.cons (SV.le.refl _) leL.nil)))))))))
theorem ok78_name (hcl:closed H) {d:Nat} (hd:d<100000):X Tryz.prog Tryz.f78.ntmps drawB i78 (argsEnv [macV ns vs,(Ex.mk 2 k nm l p).v,i64 d]) H (Ab.Fin H.length r78 (.ret (.agg (foldE (.mk 2 k nm l p)).c)) H):=by
 have hd':¬ (d:Int)=100000:=by omega
 have hf:foldE (.mk 2 k nm l p)=⟨.mk 2 k nm [] p,false,(0,0),0⟩:=by rw[foldE,if_pos rfl]
 rw[hf]
 simp -implicitDefEqProofs[i78,r78,Ex.v,Ex.c,hd',macV_vd,macV_flat,macV_cell]
 refine⟨rfl,?_⟩
 refine Cv.le (cv_fz (r1:=.agg [i64 2,i64 k,st (B nm),.val (.slice none 0 0),i64 p,bl false,i64 0,i64 0,i64 0]) (r:=.agg [i64 2,i64 k,st (B nm),.val (.slice none 0 0),i64 p,bl false,i64 0,i64 0,i64 0]) 3 hcl rfl (by simp)) ?_
 exact fo_le 2 k nm p false 0 0 0
theorem ok78_num (hcl:closed H) {d:Nat} (hd:d<100000):X Tryz.prog Tryz.f78.ntmps drawB i78 (argsEnv [macV ns vs,(Ex.mk 1 k nm l p).v,i64 d]) H (Ab.Fin H.length r78 (.ret (.agg (foldE (.mk 1 k nm l p)).c)) H):=by
 have hd':¬ (d:Int)=100000:=by omega
 have hf:foldE (.mk 1 k nm l p)=setR (.mk 1 k nm [] p) (numF k):=by rw[foldE,if_neg (by decide),if_pos rfl]
 rw[hf]
 have h26:=fun(H:List AO) (j:Nat) (hj:H[j]? = some ⟨(Ex.mk 1 k nm l p).c,24,0,true⟩)=>ok26 (H:=H) (kf:=102) (cap:=[rp j]) (r:=numF k) (fun L=>ok102 (by rw[List.getElem?_append_left (getElem?_lt hj)]; exact hj))
 generalize numF k=y at h26
 simp only[Ex.c,rp]at h26
 simp -implicitDefEqProofs[i78,r78,Ex.v,Ex.c,hd',macV_vd,macV_flat,macV_cell]
 refine⟨rfl,call_go (h26 _ _ (by simp)) ?_⟩
 cases y with
 | error e =>
  simp -implicitDefEqProofs[retV,setR]
  refine⟨rfl,?_⟩
  refine Cv.le (cv_fz (r1:=.agg [i64 1,i64 k,st (B nm),.val (.slice none 0 0),i64 p,bl true,i64 0,i64 0,i64 e]) (r:=.agg [i64 1,i64 k,st (B nm),.val (.slice none 0 0),i64 p,bl true,i64 0,i64 0,i64 e]) 3 hcl rfl (by simp)) ?_
  exact fo_le 1 k nm p true 0 0 e
 | ok v =>
  simp -implicitDefEqProofs[retV,setR]
  refine⟨rfl,?_⟩
  refine Cv.le (cv_fz (r1:=.agg [i64 1,i64 k,st (B nm),.val (.slice none 0 0),i64 p,bl true,i64 v.1,i64 v.2,i64 0]) (r:=.agg [i64 1,i64 k,st (B nm),.val (.slice none 0 0),i64 p,bl true,i64 v.1,i64 v.2,i64 0]) 3 hcl rfl (by simp)) ?_
  exact fo_le 1 k nm p true v.1 v.2 0
theorem fo_cl {ps:List Fo} {i:Nat} (hi:i<ps.length) (h:i*9+5<(rws Fo.c ps).length):(rws Fo.c ps)[i*9+5]'(h)=bl ps[i].cl:=by
 have:=rws_get (t:=5) Fo.c_len hi (by omega)
 rw[List.getElem?_eq_getElem h]at this
 simpa[Fo.c]using this
theorem fo_v2 {ps:List Fo} {i:Nat} (hi:i<ps.length) (h:i*9+7<(rws Fo.c ps).length):(rws Fo.c ps)[i*9+7]'(h)=i64 ps[i].v.2:=by
 have:=rws_get (t:=7) Fo.c_len hi (by omega)
 rw[List.getElem?_eq_getElem h]at this
 simpa[Fo.c]using this
theorem fo_er {ps:List Fo} {i:Nat} (hi:i<ps.length) (h:i*9+8<(rws Fo.c ps).length):(rws Fo.c ps)[i*9+8]'(h)=i64 ps[i].er:=by
 have:=rws_get (t:=8) Fo.c_len hi (by omega)
 rw[List.getElem?_eq_getElem h]at this
 simpa[Fo.c]using this
theorem fo_get {ps:List Fo} {i:Nat} (hi:i<ps.length):List.take 9 (List.drop (i*9) (rws Fo.c ps))=ps[i].c:=by
 rw[rws_at Fo.c_len hi,List.take_left' (by simp)]
theorem fo_und (n:Nat) (f:Fo):SV.underL n f.c=true:=by
 unfold Fo.c
 rw[SV.underL_append,Ex.und n f.e]
 rfl
theorem t78_ok (hcl:closed H) {ps:List Fo} {es:List Ex} {b:Bool} {v1 v2 er:Int} {G:List AO} {env:Env} (hw:op=20->ps.length=3∧((ps.getD 0 zFo).v.2=0∨(ps.getD 0 zFo).v.2=1)) (h4:env.get 4=.ptr (.own (H.length+1) 0 0 0 0) 0) (h6:env.get 6=.ptr (.own (H.length+2) 0 0 0 0) 0) (h7:env.get 7=.ptr (.own (H.length+3) 0 0 0 0) 0) (h8:env.get 8=.ptr (.own (H.length+5) 0 0 0 0) 0) :
 X Tryz.prog Tryz.f78.ntmps drawB t78 env (H++gH H.length ns vs op k p nm l ps es b v1 v2 er G) (Ab.Fin H.length r78 (.ret (.agg (if op=20∧(ps.getD 0 zFo).cl=true∧(ps.getD 0 zFo).er=0 then ps.getD (2-(ps.getD 0 zFo).v.2).toNat zFo else⟨.mk op k nm es p,b,(v1,v2),er⟩).c)) H):=by
 have hcl':=rws_len Fo.c_len ps
 by_cases h20:op=20
 · subst h20
   obtain⟨hl3,hv⟩:=hw rfl
   have g0:ps.getD 0 zFo=ps[0]:=by simp[hl3]
   rw[g0]at hv ⊢
   have e5:=fun h=>fo_cl (ps:=ps) (i:=0) (by omega) h
   have e7:=fun h=>fo_v2 (ps:=ps) (i:=0) (by omega) h
   have e8:=fun h=>fo_er (ps:=ps) (i:=0) (by omega) h
   simp only[Nat.zero_mul,Nat.zero_add]at e5 e7 e8
   by_cases hc:ps[0].cl=true
   · by_cases he:ps[0].er=0
     · rcases hv with hv | hv
       · have g2:ps.getD 2 zFo=ps[2]:=by simp[hl3]
         have hwr:IntKind.i64.wrap 2=2:=rfl
         have hg:=fo_get (ps:=ps) (i:=2) (by omega)
         simp only[Nat.reduceMul]at hg
         simp -implicitDefEqProofs[t78,r78,h4,h6,h7,h8,hcl',hl3,e5,e7,e8,hc,he,hv,hwr,hg]
         exact⟨Fo.c_cell _,by rw[Fo.c_9]; exact cv_fz 3 hcl rfl (fz_under (by simp[SV.under,fo_und]))⟩
       · have g2:ps.getD 1 zFo=ps[1]:=by simp[hl3]
         have hwr:IntKind.i64.wrap 1=1:=rfl
         have hg:=fo_get (ps:=ps) (i:=1) (by omega)
         simp only[Nat.one_mul]at hg
         simp -implicitDefEqProofs[t78,r78,h4,h6,h7,h8,hcl',hl3,e5,e7,e8,hc,he,hv,hwr,hg]
         exact⟨Fo.c_cell _,by rw[Fo.c_9]; exact cv_fz 3 hcl rfl (fz_under (by simp[SV.under,fo_und]))⟩
     · simp -implicitDefEqProofs[t78,r78,h4,h6,h7,h8,hcl',hl3,e5,e7,e8,hc,he]
       exact cv_fz 3 hcl rfl (by simp[Fo.c,Ex.c,exL_len,take_cL])
   · rw[Bool.not_eq_true]at hc
     simp -implicitDefEqProofs[t78,r78,h4,h6,h7,h8,hcl',hl3,e5,e7,e8,hc]
     exact cv_fz 3 hcl rfl (by simp[Fo.c,Ex.c,exL_len,take_cL])
 · simp -implicitDefEqProofs[t78,r78,h4,h6,h7,h8,h20]
   exact cv_fz 3 hcl rfl (by simp[Fo.c,Ex.c,exL_len,take_cL])
theorem vr_ne (ps:List Fo):∀ i e,wAt (ps.map vrF) i=.error e->e≠0:=by
 intro i e h
 unfold wAt at h
 by_cases hi:i<ps.length
 · have:(ps.map vrF).getD i (.error 3)=vrF ps[i]:=by simp[hi]
   rw[this]at h
   unfold vrF at h
   split at h
   · rename_i hne; cases h; exact hne
   · cases h
 · have:(ps.map vrF).getD i (.error 3)=.error 3:=by simp[hi]
   rw[this]at h
   cases h; decide
theorem ok78_op (hcl:closed H) {d:Nat} (hd:d<100000) (h1:¬ op=1) (h2:¬ op=2) (hw:wdP op (foldL l)=true) (hIH:∀ e∈l,∀ H,Ok Tryz.prog 78 [macV ns vs,e.v,i64 ((d+1:Nat):Int)] H (.ret (.agg (foldE e).c)) H) :
 X Tryz.prog Tryz.f78.ntmps drawB i78 (argsEnv [macV ns vs,(Ex.mk op k nm l p).v,i64 d]) H (Ab.Fin H.length r78 (.ret (.agg (foldE (.mk op k nm l p)).c)) H):=by
 have hd':¬ (d:Int)=100000:=by omega
 have hf:foldE (.mk op k nm l p)=opFo op k nm p (foldL l):=by rw[foldE,if_neg h2,if_neg h1]
 rw[hf]
 have hsm:=wdP_sm hw
 have hlen:=foldL_len l
 unfold wdP at hw
 simp only[Bool.and_eq_true,List.all_eq_true,decide_eq_true_eq]at hw
 obtain⟨hw1,hw2,hw3,hw4⟩:=hw
 have hl3:l.length≤3:=by
  unfold opN at hw1
  rw[if_neg (by omega)]at hw1
  split at hw1<;>(try split at hw1)<;>(try split at hw1)<;>omega
 have her:=fun e=>appF_ne (op:=op) (w:=(foldL l).map vrF) (e:=e) (vr_ne _)
 have h26:=fun(H:List AO) (j k' r q v:Nat) (hj:H[j]? = some ⟨[macV ns vs],52,0,true⟩) (hk:H[k']? = some ⟨(Ex.mk op k nm l p).c,24,0,true⟩) (hr:H[r]? = some ⟨rws Fo.c (foldL l),98,v,true⟩) (hq:H[q]? = some ⟨[.own r 0 (foldL l).length 9 v],123,0,true⟩) =>
  ok26 (H:=H) (kf:=103) (cap:=[rp j,rp k',rp q]) (r:=appF op ((foldL l).map vrF)) (fun L=>ok103 (by rw[List.getElem?_append_left (getElem?_lt hj)]; exact hj) (by rw[List.getElem?_append_left (getElem?_lt hk)]; exact hk) (by rw[List.getElem?_append_left (getElem?_lt hr)]; exact hr) (by rw[List.getElem?_append_left (getElem?_lt hq)]; exact hq) hw2 hw1 hsm)
 have hw20:op=20->(foldL l).length=3∧(((foldL l).getD 0 zFo).v.2=0∨((foldL l).getD 0 zFo).v.2=1):=by
  intro h
  subst h
  refine⟨by simp[opN]at hw1; omega,?_⟩
  simpa using hw4
 simp -implicitDefEqProofs[t78_at,Ex.v,Ex.c,hd',h1,h2,macV_vd,macV_flat,macV_cell]
 refine⟨rfl,by omega,by omega,?_⟩
 refine LI.tell (Tell.own0 (j:=H.length+3) (p:=3) (o:=⟨[i64 op,i64 k,st (B nm),.val (.slice none 0 0),i64 p,bl true,i64 0,i64 0,i64 0],98,0,true⟩) (by simp) rfl rfl 24 5) ?_
 refine LI.cong (H':=H++fH H.length ns vs op k p nm l [] [] []) (by simp[fH,rws,Ex.cL]) ?_
 refine loop78 hcl hd hl3 hIH (fun env G g3 g4 g6 g7 g8 => ?_) l.length 0 [] [] _ (by omega) rfl (by simp) ?_ ?_ ?_ ?_ ?_ ?_ ?_ ?_ ?_
 · generalize foldL l=ps at *
   generalize hres:opFo op k nm p ps=res
   unfold opFo at hres
   have ht:=fun b v1 v2 er env g4 g6 g7 g8=>t78_ok (H:=H) (ns:=ns) (vs:=vs) (k:=k) (p:=p) (nm:=nm) (l:=l) (op:=op) hcl (ps:=ps) (es:=ps.map Fo.e) (b:=b) (v1:=v1) (v2:=v2) (er:=er) (G:=G) (env:=env) hw20 g4 g6 g7 g8
   by_cases hc:ps.all Fo.cl=true
   · have hsm':=fun n=>appF_sm (op:=op) (n:=n) hsm
     have h26':=fun H j k' r q v hj hk hr hq=>h26 H j k' r q v hj hk hr hq
     simp only[rp,Ex.c]at h26'
     simp only[hc,if_true,true_and]at hres
     generalize appF op (ps.map vrF)=y at *
     simp -implicitDefEqProofs[g3,g4,g6,g7,g8,hc]
     refine call_go (h26' _ H.length (H.length+1) (H.length+4) (H.length+5) ps.length (by simp[fH]) (by simp[fH]) (by simp[fH]) (by simp[fH])) ?_
     cases y with
     | error e =>
      have he:=her e rfl
      have hres':(if op=20∧(ps.getD 0 zFo).cl=true∧(ps.getD 0 zFo).er=0 then ps.getD (2-(ps.getD 0 zFo).v.2).toNat zFo else⟨.mk op k nm (ps.map Fo.e) p,true,(0,0),e⟩)=res:=by
       rw[←hres]; unfold setR; simp only[he,false_and,if_false]
      clear hres
      have ht':=ht true 0 0 e
      rw[hres']at ht'
      simp only[gH,List.length_map]at ht'
      simp -implicitDefEqProofs[g3,g4,g6,g7,g8,hc,retV,he,fH]
      refine ht' _ ?_ ?_ ?_ ?_<;>simp[g4,g6,g7,g8]
     | ok v =>
      by_cases hv:v.1=1 ∧ -1000000000≤v.2∧v.2≤1000000000
      · obtain⟨hv1,hv2,hv3⟩:=hv
        have hw:IntKind.i64.wrap (-v.2) = -v.2:=wrap_id (by omega) (by omega)
        have hmx:max v.2 (-v.2)≤1000000000:=by omega
        have hres':(⟨litE v.2 p,true,v,0⟩:Fo)=res:=by
         rw[←hres]; unfold setR; simp only[hv1,hv2,hv3,and_self,if_true]
        have h36:=fun H=>ok36 (H:=H) (n:=v.2) (p:=p) ⟨by omega,by omega⟩
        clear hres
        subst hres'
        obtain⟨v1,v2⟩:=v
        simp only at hv1 hv2 hv3 hw hmx h36
        subst hv1
        simp -implicitDefEqProofs[g3,g4,g6,g7,g8,hc,retV,fH,hw,hmx]
        refine call_go (h36 _) ?_
        have hT:List.take 9 ((litE v2 p).c++[bl true,i64 1,i64 v2,i64 0])=(litE v2 p).c++[bl true,i64 1,i64 v2,i64 0]:=Fo.c_9 ⟨litE v2 p,true,(1,v2),0⟩
        have hC:cellsOk ((litE v2 p).c++[bl true,i64 1,i64 v2,i64 0]):=Fo.c_cell ⟨litE v2 p,true,(1,v2),0⟩
        have hF:(Fo.c ⟨litE v2 p,true,(1,v2),0⟩)=(litE v2 p).c++[bl true,i64 1,i64 v2,i64 0]:=rfl
        have hU:=fun n=>fo_und n ⟨litE v2 p,true,(1,v2),0⟩
        rw[hF]at hU ⊢
        simp -implicitDefEqProofs[g3,g4,g6,g7,g8,Ex.v,hT,hC,r78]
        exact cv_fz 3 hcl rfl (fz_under (by rw[SV.under]; exact hU _))
      · have hres':(if op=20∧(ps.getD 0 zFo).cl=true∧(ps.getD 0 zFo).er=0 then ps.getD (2-(ps.getD 0 zFo).v.2).toNat zFo else⟨.mk op k nm (ps.map Fo.e) p,true,v,0⟩)=res:=by
         rw[←hres]; unfold setR; simp only[hv,and_false,if_false]
        clear hres
        have ht':=ht true v.1 v.2 0
        rw[hres']at ht'
        simp only[gH,List.length_map]at ht'
        by_cases hv1:v.1=1
        · have hs:=hsm' v.2 (by rw[←hv1])
          unfold Sm at hs
          have hw:IntKind.i64.wrap (-v.2) = -v.2:=wrap_id (by omega) (by omega)
          have hmx:¬ max v.2 (-v.2)≤1000000000:=by omega
          simp -implicitDefEqProofs[g3,g4,g6,g7,g8,hc,retV,fH,hw,hmx,hv1]
          rw[hv1]at ht'
          refine ht' _ ?_ ?_ ?_ ?_<;>simp[g4,g6,g7,g8]
        · simp -implicitDefEqProofs[g3,g4,g6,g7,g8,hc,retV,fH,hv1]
          refine ht' _ ?_ ?_ ?_ ?_<;>simp[g4,g6,g7,g8]
   · rw[Bool.not_eq_true]at hc
     have hc':¬ (ps.all Fo.cl=true):=by simp[hc]
     have hres':(if op=20∧(ps.getD 0 zFo).cl=true∧(ps.getD 0 zFo).er=0 then ps.getD (2-(ps.getD 0 zFo).v.2).toNat zFo else⟨.mk op k nm (ps.map Fo.e) p,false,(0,0),0⟩)=res:=by
      rw[←hres]; simp only[hc',if_false,false_and]; rfl
     clear hres
     have ht':=ht false 0 0 0
     rw[hres']at ht'
     simp -implicitDefEqProofs[g3,g4,g6,g7,g8,hc]
     have hfg:fH H.length ns vs op k p nm l ps (ps.map Fo.e) G=gH H.length ns vs op k p nm l ps (ps.map Fo.e) false 0 0 0 G:=by simp only[fH,gH,hc]
     rw[hfg]
     refine ht' _ ?_ ?_ ?_ ?_<;>simp[g4,g6,g7,g8]
 all_goals simp
mutual
theorem ok78:∀ (e:Ex) (d:Nat),wdE e=true->d+e.hgt≤100000->∀ H,Ok Tryz.prog 78 [macV ns vs,e.v,i64 d] H (.ret (.agg (foldE e).c)) H
 | .mk op k nm l p,d,hw,hd,H=>by
  rw[Ex.hgt]at hd
  refine ok_fn hm Tryz.func78 c78 (by simp[macV_und,Ex.und_v]) fun hcl => ?_
  by_cases h2:op=2
  · subst h2
    exact ok78_name hcl (by omega)
  by_cases h1:op=1
  · subst h1
    exact ok78_num hcl (by omega)
  rw[wdE]at hw
  simp only[h1,h2,or_self,decide_false,Bool.false_or,Bool.and_eq_true]at hw
  exact ok78_op hcl (by omega) h1 h2 hw.2 (ok78L l (d+1) hw.1 (by omega))
theorem ok78L:∀ (l:List Ex) (d:Nat),wdL l=true->d+Ex.hgtL l≤100000->∀ e∈l,∀ H,Ok Tryz.prog 78 [macV ns vs,e.v,i64 d] H (.ret (.agg (foldE e).c)) H
 | [],d,hw,hd,e,he,_=>by simp at he
 | x::r,d,hw,hd,e,he,H=>by
  rw[Ex.hgtL]at hd
  rw[wdL,Bool.and_eq_true]at hw
  by_cases h:e=x
  · rw[h]; exact ok78 x d hw.1 (by omega) H
  · exact ok78L r d hw.2 (by omega) e (by simpa[h]using he) H
end
end
end Go.Proofs.YtcejichidnlicaaGreatDoor
namespace Go.Proofs.YtcejichidnlicaaGreatDoor
open Go.Ab
variable [FrEnv]
def chkW (k:Int) (tx:List UInt8) (n:Int):Int :=
 if tx=[]∨k<1∨3<k∨cAt tx 0=1∨tx.getD 0 0=35 then 3 else
  match stepT tx 0 with
  | .tok t q=>if q≠tx.length∨t.k≠k then 3 else if t.n≠n then 2 else 0
  | _=>3
theorem stepT_skip {l:List UInt8} {p q:Nat} (c1:cAt l p≠1) (c5:l.getD p 0≠35):stepT l p≠.skip q:=by
 intro hst
 unfold stepT at hst
 rw[if_neg c1]at hst
 have key:∀ k q',mkStp l p k q'≠.skip q:=by intro k q' h; unfold mkStp at h; split at h<;>cases h
 split at hst
 · exact key _ _ hst
 · split at hst
   · exact key _ _ hst
   · split at hst
     · exact key _ _ hst
     · first
       | exact key _ _ hst
       | (rw[if_neg c5]at hst; exact key _ _ hst)
theorem stepT_flt {l:List UInt8} {p:Nat} {e:Int} (he:stepT l p=.flt e):e≠0:=by
 have key:∀ k q,mkStp l p k q=.flt e->e≠0:=by
  intro k q hm
  unfold mkStp at hm
  split at hm
  · rename_i hne; cases hm; exact hne
  · cases hm
 unfold stepT at he
 split at he
 · cases he
 · split at he
   · exact key _ _ he
   · split at he
     · exact key _ _ he
     · split at he
       · exact key _ _ he
       · split at he
         · cases he
         · exact key _ _ he
section
variable {H:List AO} {tx:List UInt8}
theorem ok93 (hl:tx.length<4611686018427387904) (k n:Int) (a:SV) (ha:a.isCell=true) (hu:a.under H.length=true):Ok Tryz.prog 93 [.agg [i64 k,st (B tx),i64 n,a]] H (.ret (i64 (chkW k tx n))) H:=by
 refine ok_fn hm Tryz.func93 c93 (by simp) fun hcl => ?_
 by_cases h1:tx=[]
 · have hr:chkW k tx n=3:=by unfold chkW; rw[if_pos (.inl h1)]
   rw[hr]
   simp -implicitDefEqProofs[i93,r93,h1,ha]
   refine callq_off _ _ _ _ ?_
   simp -implicitDefEqProofs
   exact cv_fz 4 hcl rfl (by simp)
 have hpos:0<tx.length:=List.length_pos_iff.2 h1
 have hg:tx.getD 0 0=tx[0]:=by simp[hpos]
 have hb:tx[0].toNat<256:=tx[0].toNat_lt
 have f1:((tx[0].toNat:Int)=35)↔tx[0]=35:=u8i tx[0] 35
 obtain⟨_,_,q1,_⟩:=cls_at hb
 rw[←cAt_get hpos]at q1
 by_cases h2:k<1
 · have hr:chkW k tx n=3:=by unfold chkW; rw[if_pos (.inr (.inl h2))]
   rw[hr]
   simp -implicitDefEqProofs[i93,r93,h1,ha,h2]
   refine callq_off _ _ _ _ ?_
   simp -implicitDefEqProofs
   exact cv_fz 4 hcl rfl (by simp)
 by_cases h3:3<k
 · have hr:chkW k tx n=3:=by unfold chkW; rw[if_pos (.inr (.inr (.inl h3)))]
   rw[hr]
   simp -implicitDefEqProofs[i93,r93,h1,ha,h2,h3]
   refine callq_off _ _ _ _ ?_
   simp -implicitDefEqProofs
   exact cv_fz 4 hcl rfl (by simp)
 simp -implicitDefEqProofs[i93,r93,h1,ha,h2,h3,hpos]
 refine callq_st (r:=bl (whtB tx[0].toNat)) (fun _=>by rw[st_u8]; exact ok85 _ hb) ?_
 by_cases h4:cAt tx 0=1
 · have hr:chkW k tx n=3:=by unfold chkW; rw[if_pos (.inr (.inr (.inr (.inl h4))))]
   rw[hr]
   simp -implicitDefEqProofs[q1.1 h4]
   exact cv_fz 4 hcl rfl (by simp)
 have hW:whtB tx[0].toNat=false:=by rw[←Bool.not_eq_true]; exact fun h=>h4 (q1.2 h)
 by_cases h5:tx[0]=35
 · have hr:chkW k tx n=3:=by unfold chkW; rw[if_pos (.inr (.inr (.inr (.inr (by rw[hg]; exact h5)))))]
   rw[hr]
   simp -implicitDefEqProofs[hW,hpos,h5]
   exact cv_fz 4 hcl rfl (by simp)
 have h5':¬ ((tx[0].toNat:Int)=35):=fun h=>h5 (f1.1 h)
 have hr:chkW k tx n=match stepT tx 0 with
  | .tok t q=>if q≠tx.length∨t.k≠k then 3 else if t.n≠n then 2 else 0
  | _=>3:=by unfold chkW; rw[if_neg (by rw[hg]; rintro(h | h | h | h | h)<;>contradiction)]
 simp -implicitDefEqProofs[hW,hpos,h5']
 refine call_go (ok86 hl hpos h4 (by rw[hg]; exact h5) (fun h=>absurd h.2.1 (by decide))) ?_
 cases hst:stepT tx 0 with
 | skip q=>exact(stepT_skip h4 (by rw[hg]; exact h5) hst).elim
 | flt e =>
  have hnx:nxV tx 0=.tup [zT,i64 0,fltV e 0]:=by unfold nxV; rw[hst]; rfl
  rw[hst]at hr
  have he:=stepT_flt hst
  rw[hnx,hr]
  simp -implicitDefEqProofs[zT,fltV,he]
  exact cv_fz 4 hcl rfl (by simp)
 | tok t q =>
  have hnx:nxV tx 0=.tup [t.v,i64 q,fltV 0 0]:=by unfold nxV; rw[hst]
  rw[hst]at hr
  rw[hnx,hr]
  by_cases hq:q=tx.length
  · by_cases hk:t.k=k
    · simp -implicitDefEqProofs[Tok.v,Tok.c,fltV,hq,hk]
      split
      · exact cv_fz 4 hcl rfl (by simp)
      · exact cv_fz 4 hcl rfl (by simp)
    · simp -implicitDefEqProofs[Tok.v,Tok.c,fltV,hq,hk]
      exact cv_fz 4 hcl rfl (by simp)
  · have hq':¬ ((q:Int)=tx.length):=by omega
    simp -implicitDefEqProofs[Tok.v,Tok.c,fltV,hq,hq']
    exact cv_fz 4 hcl rfl (by simp)
end
end Go.Proofs.YtcejichidnlicaaGreatDoor
namespace Go.Proofs.YtcejichidnlicaaGreatDoor
open Go.Ab
variable [FrEnv]
def Tok.mv (t:Tok) (d:Nat):Tok:={ t with p:=d+t.p }
def Stp.mv (d:Nat):Stp->Stp
 | .skip q=>.skip (d+q)
 | .tok t q=>.tok (t.mv d) (d+q)
 | .flt e=>.flt e
def Ev.mv (d:Nat):Ev->Ev
 | .tok t=>.tok (t.mv d)
 | .flt e p=>.flt e (d+p)
section
variable {a b:List UInt8} {c:UInt8}
def bad:List Ev->Bool
 | []=>false
 | .tok _::r=>bad r
 | .flt _ _::_=>true
end
end Go.Proofs.YtcejichidnlicaaGreatDoor
namespace Go.Proofs.YtcejichidnlicaaGreatDoor
open Go.Ab
variable [FrEnv]
end Go.Proofs.YtcejichidnlicaaGreatDoor
namespace Go.Proofs.YtcejichidnlicaaGreatDoor
open Go.Ab
variable [FrEnv]
def decF:Nat->Nat->List UInt8
 | 0,n=>[UInt8.ofNat (48+n)]
 | k+1,n=>if 9<n then decF k (n / 10)++[UInt8.ofNat (48+n % 10)]else [UInt8.ofNat (48+n)]
def decN (n:Nat):List UInt8:=decF 18 n
theorem decF_one {k n:Nat} (h:n≤9):decF k n=[UInt8.ofNat (48+n)]:=by
 cases k with
 | zero=>rfl
 | succ k=>rw[decF,if_neg (by omega)]
theorem decF_len:∀ k n:Nat,(decF k n).length≤k+1
 | 0,n=>by simp[decF]
 | k+1,n=>by
  rw[decF]
  split
  · have:=decF_len k (n / 10); simp; omega
  · simp
theorem enc_dig {d:Nat} (h:d≤9):Utf8.encode ((48:Int)+(d:Int))=B [UInt8.ofNat (48+d)]:=by
 have:d=0∨d=1∨d=2∨d=3∨d=4∨d=5∨d=6∨d=7∨d=8∨d=9:=by omega
 rcases this with rfl | rfl | rfl | rfl | rfl | rfl | rfl | rfl | rfl | rfl<;>decide
theorem B_cat (a b:List UInt8):B a++B b=B (a++b):=by
 apply ByteArray.ext
 show(B a++B b).data=_
 rw[ByteArray.data_append]; simp
section
variable {H:List AO}
theorem ok72a:∀ (k n:Nat),n<10 ^ (k+1)->k≤18->n≤9223372036854775807->∀ H:List AO,Ok Tryz.prog 72 [i64 n] H (.ret (st (B (decF k n)))) H:=by
 intro k
 induction k with
 | zero =>
  intro n hn _ h63 H
  refine ok_fn hm Tryz.func72 c72 (by simp) fun hcl => ?_
  have h9:¬ (9:Int)<n:=by omega
  have he:=enc_dig (d:=n) (by omega)
  have w1:IntKind.i64.wrap (48+(n:Int))=48+(n:Int):=wrap_id (by omega) (by omega)
  have w2:IntKind.i32.wrap (48+(n:Int))=48+(n:Int):=by unfold IntKind.wrap; simp[IntKind.bits,IntKind.signed]; omega
  simp -implicitDefEqProofs[i72,r72,h9,w1,w2,he,decF]
  exact cv_id
 | succ k ih =>
  intro n hn hk h63 H
  by_cases h9:n≤9
  · rw[decF_one h9]
    refine ok_fn hm Tryz.func72 c72 (by simp) fun hcl => ?_
    have h9':¬ (9:Int)<n:=by omega
    have he:=enc_dig (d:=n) (by omega)
    have w1:IntKind.i64.wrap (48+(n:Int))=48+(n:Int):=wrap_id (by omega) (by omega)
    have w2:IntKind.i32.wrap (48+(n:Int))=48+(n:Int):=by unfold IntKind.wrap; simp[IntKind.bits,IntKind.signed]; omega
    simp -implicitDefEqProofs[i72,r72,h9',w1,w2,he]
    exact cv_id
  · have h9':(9:Int)<n:=by omega
    have hq:n / 10<10 ^ (k+1):=by
     rw[Nat.pow_succ]at hn
     omega
    have hd:n % 10<10 ^ (k+1):=by
     have:10 ^ 1≤10 ^ (k+1):=Nat.pow_le_pow_right (by omega) (by omega)
     omega
    have a1:=ih (n / 10) hq (by omega) (by omega)
    have a2:=ih (n % 10) hd (by omega) (by omega)
    rw[decF_one (by omega:n % 10≤9)]at a2
    have l1:=decF_len k (n / 10)
    have e:decF (k+1) n=decF k (n / 10)++[UInt8.ofNat (48+n % 10)]:=by rw[decF,if_pos (by omega)]
    rw[e]
    refine ok_fn hm Tryz.func72 c72 (by simp) fun hcl => ?_
    have w1:IntKind.i64.wrap ((n:Int) / 10)=((n / 10:Nat):Int):=by rw[wrap_id (by omega) (by omega)]; omega
    have w2:IntKind.i64.wrap ((n:Int) % 10)=((n % 10:Nat):Int):=by rw[wrap_id (by omega) (by omega)]; omega
    generalize decF k (n / 10)=x at a1 l1 e ⊢
    simp -implicitDefEqProofs[i72,r72,h9',w1,w2]
    refine call_go (a1 _) ?_
    simp -implicitDefEqProofs[h9',w1,w2]
    refine call_go (a2 _) ?_
    simp -implicitDefEqProofs[B_cat,B_size]
    exact⟨by omega,cv_id⟩
theorem ok72 {n:Nat} (h:n≤9223372036854775807):Ok Tryz.prog 72 [i64 n] H (.ret (st (B (decN n)))) H:=ok72a 18 n (by omega) (by omega) h H
def nmdF (s:List UInt8):Bool:=decide (chkW 1 s 0=0) && !decide (s∈resv)
theorem ok71 {s:List UInt8} (h:s.length<4611686018427387904):Ok Tryz.prog 71 [st (B s)] H (.ret (bl (nmdF s))) H:=by
 have h73:=fun H=>ok93 (H:=H) h 1 0 (i64 0) rfl rfl
 refine ok_fn hm Tryz.func71 c71 (by simp) fun hcl => ?_
 simp -implicitDefEqProofs[i71,r71]
 refine call_go (h73 _) ?_
 by_cases hc:chkW 1 s 0=0
 · simp -implicitDefEqProofs[hc]
   refine callq_st (r:=bl (decide (s∈resv))) (fun _=>ok94 s) ?_
   simp -implicitDefEqProofs[hc,nmdF]
   exact cv_id
 · simp -implicitDefEqProofs[hc]
   refine callq_go (r:=bl false) (fun h=>by cases h) ?_
   simp -implicitDefEqProofs[hc,nmdF]
   exact cv_id
end
end Go.Proofs.YtcejichidnlicaaGreatDoor
namespace Go.Proofs.YtcejichidnlicaaGreatDoor
open Go.Ab
variable [FrEnv]
inductive TK where
 | wd (s:List UInt8)
 | sg (s:List UInt8)
 | nm (n:Nat)
inductive Pc where
 | b (c:UInt8)
 | t (k:TK)
def TK.tx:TK->List UInt8
 | .wd s=>s
 | .sg s=>s
 | .nm n=>decN n
def txt:List Pc->List UInt8
 | []=>[]
 | .b c::r=>c::txt r
 | .t k::r=>k.tx++txt r
theorem txt_app:∀ a b:List Pc,txt (a++b)=txt a++txt b
 | [],b=>rfl
 | .b c::a,b=>by simp[txt,txt_app a b]
 | .t k::a,b=>by simp[txt,txt_app a b]
def isWd (s:List UInt8):Prop:=s≠[]∧cAt s 0=2∧(∀ i,i<s.length->cAt s i=2∨cAt s i=3)∧s.length≤40
def isSg (s:List UInt8):Prop:=(∃ c∈sgls,s=[c])∨s∈dbls
def TK.ok:TK->Prop
 | .wd s=>isWd s
 | .sg s=>isSg s
 | .nm n=>n≤1000000000
end Go.Proofs.YtcejichidnlicaaGreatDoor
namespace Go.Proofs.YtcejichidnlicaaGreatDoor
open Go.Ab
variable [FrEnv]
def wrdT (op:Int):List UInt8:=if op=18 then [109,105,110]else if op=19 then [109,97,120]else [105,102]
def binS:List (List UInt8):=[[42],[47],[37],[43],[45],[61,61],[33,61],[60],[60,61],[62],[62,61],[97,110,100],[111,114]]
def binT (op:Int):TK:=if op=16∨op=17 then .wd (binS.getD (op-5).toNat [])else .sg (binS.getD (op-5).toNat [])
def opP (x:Int×List Pc):List Pc:=if x.1=1∨x.1=2∨18≤x.1 then x.2 else .t (.sg [40])::(x.2++[.t (.sg [41])])
theorem opP_pos {k:Int} {x:List Pc} (h:k=1∨k=2∨18≤k):opP (k,x)=x:=if_pos h
theorem opP_neg {k:Int} {x:List Pc} (h:¬ (k=1∨k=2∨18≤k)):opP (k,x)=.t (.sg [40])::(x++[.t (.sg [41])]):=if_neg h
def lsP:List (Int×List Pc)->List Pc
 | []=>[]
 | x::r=>x.2++r.flatMap fun y=>.t (.sg [44])::.b 32::y.2
def ndP (l:List (Int×List Pc)) (i:Nat):List Pc:=match l[i]? with
 | some x=>opP x
 | none=>[]
def shK (op n:Int) (nm:List UInt8) (ts:List (Int×List Pc)):List Pc :=
 if op=1 then [.t (.nm n.toNat)]else if op=2 then [.t (.wd nm)]else if op=3 then .t (.sg [45])::.b 32::ndP ts 0 else if op=4 then .t (.wd [110,111,116])::.b 32::ndP ts 0
 else if 18≤op then .t (.wd (wrdT op))::.t (.sg [40])::(lsP ts++[.t (.sg [41])])else ndP ts 0++.b 32::.t (binT op)::.b 32::ndP ts 1
mutual
def shP:Ex->List Pc
 | .mk op n nm l _=>shK op n nm (shL l)
def shL:List Ex->List (Int×List Pc)
 | []=>[]
 | e::r=>(e.op,shP e)::shL r
end
mutual
def fineE:Ex->Bool
 | .mk op n nm l _=>decide ((l.length:Int)=opN op)&&((decide (op=1)||decide (n=0))&&((decide (op=2)||decide (nm=[]))&&((!decide (op=2)||nmdF nm)&&(decide (0≤n)&&(decide (n≤1000000000)&&fineL l)))))
def fineL:List Ex->Bool
 | []=>true
 | e::r=>fineE e&&fineL r
end
theorem fineE_iff {op n p:Int} {nm:List UInt8} {l:List Ex}:fineE (.mk op n nm l p)=true↔(l.length:Int)=opN op∧(op=1∨n=0)∧(op=2∨nm=[])∧(op≠2∨nmdF nm=true)∧0≤n∧n≤1000000000∧fineL l=true:=by
 rw[fineE]
 simp only[Bool.and_eq_true,Bool.or_eq_true,decide_eq_true_eq,Bool.not_eq_true',decide_eq_false_iff_not,ne_eq]
theorem opN_cases {op:Int} {n:Nat} (h:(n:Int)=opN op):1≤op∧op≤20:=by
 unfold opN at h
 split at h
 · omega
 · split at h
   · omega
   · split at h
     · omega
     · split at h<;>omega
theorem shL_len:∀ l:List Ex,(shL l).length=l.length
 | []=>rfl
 | e::r=>by simp[shL,shL_len r]
theorem shL_get:∀ {l:List Ex} {i:Nat} (h:i<l.length),(shL l)[i]? = some (l[i].op,shP l[i])
 | e::r,0,_=>by simp[shL]
 | e::r,i+1,h=>by
  simp only[shL,List.getElem?_cons_succ,List.getElem_cons_succ]
  exact shL_get (by simpa using h)
end Go.Proofs.YtcejichidnlicaaGreatDoor
namespace Go.Proofs.YtcejichidnlicaaGreatDoor
open Go.Ab
variable [FrEnv]
section
variable {H:List AO}
theorem loop32 {l:List Ex} (hl:l.length≤3) (hIH:∀ e∈l,∀ H:List AO,Ok Tryz.prog 32 [e.v] H (.ret (bl (fineE e))) H) {op n:Int} {nm:List UInt8} {p:Int} {N:Nat} {K:XE->Env->List AO->Prop}
 (hret:fineL l=false->∀ env G,env.get 2=bl false->K .ret env (H++⟨[i64 op,i64 n,st (B nm),.slc (Ex.cL l) l.length,i64 p],24,0,true⟩::G))
 (hexit:fineL l=true->∀ env G,K (.exit 0) env (H++⟨[i64 op,i64 n,st (B nm),.slc (Ex.cL l) l.length,i64 p],24,0,true⟩::G)) :
 ∀ (m i:Nat) (G:List AO) (env:Env),i+m=l.length->fineL l=fineL (l.drop i)->env.get 1=rp H.length->env.get 3=i64 i →
  LI Tryz.prog N drawB l32_0 env (H++⟨[i64 op,i64 n,st (B nm),.slc (Ex.cL l) l.length,i64 p],24,0,true⟩::G) K:=by
 intro m
 induction m with
 | zero =>
  intro i G env hi hq h1 h3
  refine li_go hm l32_0.eq_1 ?_
  have e:i=l.length:=by omega
  subst e
  rw[List.drop_length]at hq
  simp -implicitDefEqProofs[h1,h3,rp]
  exact hexit hq _ _
 | succ m ih =>
  intro i G env hi hq h1 h3
  refine li_go hm l32_0.eq_1 ?_
  have hlt:i<l.length:=by omega
  have hlt':(i:Int)<l.length:=by omega
  have hg:=exL_get hlt
  have hcl:=exL_len l
  rw[List.drop_eq_getElem_cons hlt,fineL]at hq
  have h:=hIH l[i] (List.getElem_mem hlt)
  generalize l[i]=e at hq hg h
  simp -implicitDefEqProofs[h1,h3,rp,hlt,hlt',hg,hcl]
  refine⟨by omega,call_go (h _) ?_⟩
  cases he:fineE e with
  | true =>
   rw[he,Bool.true_and]at hq
   simp -implicitDefEqProofs[h1,h3,rp]
   refine ih (i+1) G _ (by omega) hq ?_ ?_
   all_goals simp[h1,rp,wrap_suc (show i<9223372036854775807 by omega)]
  | false =>
   rw[he,Bool.false_and]at hq
   simp -implicitDefEqProofs[h1,h3,rp]
   exact hret hq _ _ (by simp)
theorem ok96_go (hcl:closed H) {op n:Int} {nm:List UInt8} {l:List Ex} {p:Int} (hnm:nm.length<4611686018427387904) (hIH:∀ e∈l,∀ H:List AO,Ok Tryz.prog 32 [e.v] H (.ret (bl (fineE e))) H) :
 X Tryz.prog Tryz.f32.ntmps drawB i32 (argsEnv [(Ex.mk op n nm l p).v]) H (Fin H.length r32 (.ret (bl (fineE (.mk op n nm l p)))) H):=by
 generalize hw:fineE (.mk op n nm l p)=w
 rw[fineE]at hw
 have h111:=fun H=>ok70 (H:=H) op
 have h43:=fun H=>ok71 (H:=H) hnm
 generalize hk:opN op=k at hw h111
 simp -implicitDefEqProofs[i32,r32,Ex.v,Ex.c]
 refine callq_go (fun _=>h111 _) ?_
 by_cases a1:(l.length:Int)=k
 · have hl3:l.length≤3:=by
    have:opN op≤3:=by unfold opN; split<;>(try split)<;>(try split)<;>(try split)<;>omega
    omega
   have fin:∀ (env:Env),w=fineL l->env.get 1=rp H.length->env.get 3=i64 0->∀ K:XE->Env->List AO->Prop,
    (fineL l=false->∀ env G,env.get 2=bl false->K .ret env (H++⟨[i64 op,i64 n,st (B nm),.slc (Ex.cL l) l.length,i64 p],24,0,true⟩::G)) →
    (fineL l=true->∀ env G,K (.exit 0) env (H++⟨[i64 op,i64 n,st (B nm),.slc (Ex.cL l) l.length,i64 p],24,0,true⟩::G)) →
    LI Tryz.prog Tryz.f32.ntmps drawB l32_0 env (H++⟨[i64 op,i64 n,st (B nm),.slc (Ex.cL l) l.length,i64 p],24,0,true⟩::[]) K:=fun env _ g1 g3 K k1 k2 =>
    loop32 hl3 hIH k1 k2 l.length 0 [] env (by omega) rfl g1 g3
   by_cases a2:op=1∨n=0
   · by_cases a3:op=2∨nm=[]
     · by_cases a4:op=2
       · have a5:n=0:=by omega
         have a6:¬ op=1:=by omega
         by_cases hn:nmdF nm=true
         · have hwq:w=fineL l:=by rw[←hw]; simp[a1,a4,a5,hn]
           subst a4 a5
           simp -implicitDefEqProofs[a1]
           refine callq_st (r:=bl (nmdF nm)) (fun _=>h43 _) ?_
           simp -implicitDefEqProofs[a1,hn]
           refine LI.cong (H':=H++⟨[i64 2,i64 0,st (B nm),.slc (Ex.cL l) l.length,i64 p],24,0,true⟩::[]) (by simp) ?_
           refine fin _ hwq ?_ ?_ _ (fun hq env G h2 => ?_) (fun hq env G => ?_)
           · simp[rp]
           · simp
           · simp -implicitDefEqProofs[h2]
             rw[hwq,hq]
             exact cv_fz 3 hcl rfl rfl
           · simp -implicitDefEqProofs
             rw[hwq,hq]
             exact cv_fz 3 hcl rfl rfl
         · rw[Bool.not_eq_true]at hn
           have hw:w=false:=by rw[←hw]; simp[a4,hn]
           subst a4 a5 hw
           simp -implicitDefEqProofs[a1]
           refine callq_st (r:=bl (nmdF nm)) (fun _=>h43 _) ?_
           simp -implicitDefEqProofs[a1,hn]
           exact cv_fz 3 hcl rfl rfl
       · have a6:nm=[]:=a3.resolve_left a4
         have hnn:op=1∨n=0:=a2
         by_cases b1:n<0
         · have hw:w=false:=by rw[←hw]; simp; intros; omega
           subst hw a6
           have o1:op=1:=by omega
           subst o1
           simp -implicitDefEqProofs[a1,b1]
           refine callq_go (r:=bl false) (fun h=>by cases h) ?_
           simp -implicitDefEqProofs[a1,b1]
           exact cv_fz 3 hcl rfl rfl
         · by_cases b2:1000000000<n
           · have hw:w=false:=by rw[←hw]; simp; intros; omega
             subst hw a6
             have o1:op=1:=by omega
             subst o1
             simp -implicitDefEqProofs[a1,b1,b2]
             refine callq_go (r:=bl false) (fun h=>by cases h) ?_
             simp -implicitDefEqProofs[a1,b1,b2]
             exact cv_fz 3 hcl rfl rfl
           · have hwq:w=fineL l:=by
              rw[←hw]
              have c1:0≤n:=by omega
              have c2:n≤1000000000:=by omega
              rcases hnn with h | h<;>simp[a1,a4,a6,h,c1,c2]
             have ho:op=1∨¬ op=1∧n=0:=by omega
             rcases ho with ho | ⟨ho,hn0⟩
             · subst ho
               simp -implicitDefEqProofs[a1,a6,b1,b2]
               refine callq_go (r:=bl false) (fun h=>by cases h) ?_
               simp -implicitDefEqProofs[a1,b1,b2]
               refine LI.cong (H':=H++⟨[i64 1,i64 n,st (B nm),.slc (Ex.cL l) l.length,i64 p],24,0,true⟩::[]) (by simp[a6]) ?_
               refine fin _ hwq ?_ ?_ _ (fun hq env G h2 => ?_) (fun hq env G => ?_)
               · simp[rp]
               · simp
               · simp -implicitDefEqProofs[h2]
                 rw[hwq,hq]
                 exact cv_fz 3 hcl rfl rfl
               · simp -implicitDefEqProofs
                 rw[hwq,hq]
                 exact cv_fz 3 hcl rfl rfl
             · subst hn0
               simp -implicitDefEqProofs[a1,a4,a6,ho]
               refine callq_go (r:=bl false) (fun h=>by cases h) ?_
               simp -implicitDefEqProofs[a1,a4,a6,ho]
               refine LI.cong (H':=H++⟨[i64 op,i64 0,st (B nm),.slc (Ex.cL l) l.length,i64 p],24,0,true⟩::[]) (by simp[a6]) ?_
               refine fin _ hwq ?_ ?_ _ (fun hq env G h2 => ?_) (fun hq env G => ?_)
               · simp[rp]
               · simp
               · simp -implicitDefEqProofs[h2]
                 rw[hwq,hq]
                 exact cv_fz 3 hcl rfl rfl
               · simp -implicitDefEqProofs
                 rw[hwq,hq]
                 exact cv_fz 3 hcl rfl rfl
     · have b1:¬ op=2:=fun h=>a3 (.inl h)
       have b2:¬ nm=[]:=fun h=>a3 (.inr h)
       have hw:w=false:=by rw[←hw]; simp[b1,b2]
       subst hw
       rcases a2 with ho | ho
       · subst ho
         simp -implicitDefEqProofs[a1,b2]
         refine callq_go (r:=bl false) (fun h=>by cases h) ?_
         simp -implicitDefEqProofs[a1,b2]
         exact cv_fz 3 hcl rfl rfl
       · subst ho
         simp -implicitDefEqProofs[a1,b1,b2]
         refine callq_go (r:=bl false) (fun h=>by cases h) ?_
         simp -implicitDefEqProofs[a1,b1,b2]
         exact cv_fz 3 hcl rfl rfl
   · have b1:¬ op=1:=fun h=>a2 (.inl h)
     have b2:¬ n=0:=fun h=>a2 (.inr h)
     have:w=false:=by rw[←hw]; simp[b1,b2]
     subst this
     simp -implicitDefEqProofs[a1,b1,b2]
     refine callq_go (r:=bl false) (fun h=>by cases h) ?_
     simp -implicitDefEqProofs[a1,b1,b2]
     exact cv_fz 3 hcl rfl rfl
 · have:w=false:=by rw[←hw]; simp[a1]
   subst this
   simp -implicitDefEqProofs[a1]
   refine callq_go (r:=bl false) (fun h=>by cases h) ?_
   simp -implicitDefEqProofs[a1]
   exact cv_fz 3 hcl rfl rfl
end
mutual
def Ex.nmB:Ex->Prop
 | .mk _ _ nm l _=>nm.length<4611686018427387904∧Ex.nmBL l
def Ex.nmBL:List Ex->Prop
 | []=>True
 | e::r=>e.nmB∧Ex.nmBL r
end
mutual
theorem ok32:∀ (e:Ex),e.nmB->∀ (H:List AO),Ok Tryz.prog 32 [e.v] H (.ret (bl (fineE e))) H
 | .mk op n nm l p,h,H=>by
  unfold Ex.nmB at h
  refine ok_fn hm Tryz.func32 c32 (by simp) fun hcl => ?_
  exact ok96_go hcl h.1 (ok96L l h.2)
theorem ok96L:∀ (l:List Ex),Ex.nmBL l->∀ e∈l,∀ (H:List AO),Ok Tryz.prog 32 [e.v] H (.ret (bl (fineE e))) H
 | [],_,e,he,_=>by simp at he
 | x::r,h,e,he,H=>by
  unfold Ex.nmBL at h
  by_cases hx:e=x
  · rw[hx]; exact ok32 x h.1 H
  · exact ok96L r h.2 e (by simpa[hx]using he) H
end
end Go.Proofs.YtcejichidnlicaaGreatDoor
namespace Go.Proofs.YtcejichidnlicaaGreatDoor
open Go.Ab
variable [FrEnv]
def Sh77 (e:Ex):Prop:=fineE e=true->(txt (shP e)).length≤4611686018427387904->∀ H:List AO,Ok Tryz.prog 33 [e.v] H (.ret (st (B (txt (shP e))))) H
section
variable {H:List AO}
theorem opP_len (k:Int) (x:List Pc):(txt x).length≤(txt (opP (k,x))).length:=by
 by_cases h:k=1∨k=2∨18≤k
 · rw[opP_pos h]; exact Nat.le_refl _
 · rw[opP_neg h]; simp[txt,txt_app,TK.tx]; omega
theorem ok73 {e:Ex} (h:Sh77 e) (hf:fineE e=true) (hl:(txt (opP (e.op,shP e))).length≤4611686018427387904):Ok Tryz.prog 73 [e.v] H (.ret (st (B (txt (opP (e.op,shP e)))))) H:=by
 have h77:=h hf (Nat.le_trans (opP_len _ _) hl)
 refine ok_fn hm Tryz.func73 c73 (by simp) fun hcl => ?_
 obtain⟨op,n,nm,l,p⟩:=e
 have hop:(Ex.mk op n nm l p).op=op:=rfl
 rw[hop]at hl ⊢
 generalize shP (.mk op n nm l p)=x at h77 hl ⊢
 simp only[Ex.v,Ex.c]at h77
 by_cases h:op=1∨op=2∨18≤op
 · rw[opP_pos h]
   have key:∀ K:XE->Env->List AO->Prop,True:=fun _=>trivial
   rcases h with h | h | h
   · subst h
     simp -implicitDefEqProofs[i73,r73,Ex.v,Ex.c]
     refine call_go (h77 _) ?_
     simp -implicitDefEqProofs
     exact cv_fz 3 hcl rfl rfl
   · subst h
     simp -implicitDefEqProofs[i73,r73,Ex.v,Ex.c]
     refine call_go (h77 _) ?_
     simp -implicitDefEqProofs
     exact cv_fz 3 hcl rfl rfl
   · have h1:¬ op=1:=by omega
     have h2:¬ op=2:=by omega
     simp -implicitDefEqProofs[i73,r73,Ex.v,Ex.c,h,h1,h2]
     refine call_go (h77 _) ?_
     simp -implicitDefEqProofs
     exact cv_fz 3 hcl rfl rfl
 · rw[opP_neg h]at hl ⊢
   have h1:¬ op=1:=by omega
   have h2:¬ op=2:=by omega
   have h3:¬ 18≤op:=by omega
   have e1:txt (.t (.sg [40])::(x++[.t (.sg [41])]))=[40]++txt x++[41]:=by simp[txt,txt_app,TK.tx]
   rw[e1]at hl ⊢
   simp only[List.length_append,List.length_cons,List.length_nil]at hl
   generalize txt x=t at h77 hl ⊢
   simp -implicitDefEqProofs[i73,r73,Ex.v,Ex.c,h1,h2,h3]
   refine call_go (h77 _) ?_
   simp -implicitDefEqProofs[B_cat,B_size]
   refine⟨by omega,by omega,?_⟩
   exact cv_fz 3 hcl rfl rfl
theorem lsP_app (l:List (Int×List Pc)) (x:Int×List Pc) (h:l≠[]):txt (lsP (l++[x]))=txt (lsP l)++([44,32]++txt x.2):=by
 cases l with
 | nil=>exact absurd rfl h
 | cons y r=>simp[lsP,txt,txt_app,TK.tx]
theorem lsP_take:∀ (l:List Ex) (i:Nat),(txt (lsP ((shL l).take i))).length≤(txt (lsP (shL l))).length:=by
 intro l i
 generalize shL l=s
 cases s with
 | nil=>simp
 | cons x r =>
  cases i with
  | zero=>simp[lsP,txt]
  | succ i =>
   have key:∀ (r:List (Int×List Pc)) (i:Nat),(txt ((r.take i).flatMap fun y=>.t (.sg [44])::.b 32::y.2)).length≤(txt (r.flatMap fun y=>.t (.sg [44])::.b 32::y.2)).length:=by
    intro r
    induction r with
    | nil=>intro i; simp
    | cons y r ih =>
     intro i
     cases i with
     | zero=>simp[txt]
     | succ i =>
      have:=ih i
      rw[List.take_succ_cons,List.flatMap_cons,List.flatMap_cons,txt_app,txt_app,List.length_append,List.length_append]
      omega
   have:=key r i
   simp only[List.take_succ_cons,lsP,txt_app,List.length_append]
   omega
theorem shL_take (l:List Ex) {i:Nat} (h:i<l.length):(shL l).take (i+1)=(shL l).take i++[(l[i].op,shP l[i])]:=by
 have hl:i<(shL l).length:=by rw[shL_len]; exact h
 rw[List.take_succ_eq_append_getElem hl]
 have:=shL_get h
 rw[List.getElem?_eq_getElem hl]at this
 rw[Option.some.inj this]
theorem loop74 {l:List Ex} (hl:l.length<4611686018427387904) (hIH:∀ e∈l,Sh77 e) (hf:∀ e∈l,fineE e=true) (hb:(txt (lsP (shL l))).length≤4611686018427387904) {N:Nat} {K:XE->Env->List AO->Prop}
 (hexit:∀ env,env.get 3=st (B (txt (lsP (shL l))))->K (.exit 0) env H) :
 ∀ (m i:Nat) (env:Env),i+m=l.length->env.get 0=exS l->env.get 3=st (B (txt (lsP ((shL l).take i))))->env.get 4=i64 i →
  LI Tryz.prog N drawB l74_0 env H K:=by
 intro m
 induction m with
 | zero =>
  intro i env hi h0 h3 h4
  refine li_go hm l74_0.eq_1 ?_
  have e:i=l.length:=by omega
  subst e
  rw[List.take_of_length_le (by rw[shL_len]; exact Nat.le_refl _)]at h3
  simp -implicitDefEqProofs[h0,h3,h4,exS]
  exact hexit _ (by simp[h3])
 | succ m ih =>
  intro i env hi h0 h3 h4
  refine li_go hm l74_0.eq_1 ?_
  have hlt:i<l.length:=by omega
  have hlt':(i:Int)<l.length:=by omega
  have hg:=exL_get hlt
  have hcl:=exL_len l
  have htk:=shL_take l hlt
  have hle:=lsP_take l (i+1)
  have hfe:=hf _ (List.getElem_mem hlt)
  have h77:=hIH _ (List.getElem_mem hlt) hfe
  have ih:=ih (i+1)
  rw[htk]at hle ih
  by_cases hi0:i=0
  · subst hi0
    rw[List.take_zero]at h3 hle ih
    have e1:txt (lsP ([]++[(l[0].op,shP l[0])]))=txt (shP l[0]):=by simp[lsP]
    rw[e1]at hle ih
    have e3:txt (lsP ([]:List (Int×List Pc)))=[]:=rfl
    rw[e3]at h3
    rw[Nat.zero_mul,List.drop_zero]at hg
    have h77:=h77 (by omega)
    generalize l[0]=e at hg hfe h77 hle ih
    generalize txt (shP e)=t at h77 hle ih
    have hlt0:¬ (0:Int)<0:=by omega
    simp -implicitDefEqProofs[h0,h3,h4,exS,hlt,hlt',hg,hcl]
    refine⟨by omega,call_go (h77 _) ?_⟩
    simp -implicitDefEqProofs[h0,h3,h4,exS,B_cat,B_size]
    refine⟨by omega,?_⟩
    refine ih _ (by omega) ?_ ?_ ?_
    all_goals simp[h0,exS,show IntKind.i64.wrap 1=1 from by decide,h3,B_cat]
  · have hi0':(0:Int)<i:=by omega
    have hne:(shL l).take i≠[]:=by
     intro h
     have hq:((shL l).take i).length=i:=by rw[List.length_take,shL_len]; omega
     rw[h]at hq
     have:(0:Nat)=i:=hq
     omega
    have e2:=lsP_app ((shL l).take i) (l[i].op,shP l[i]) hne
    rw[e2]at hle
    rw[e2]at ih
    simp only at hle ih
    simp only[List.length_append,List.length_cons,List.length_nil]at hle
    have h77:=h77 (by omega)
    have hi0n:0<i:=by omega
    generalize txt (lsP ((shL l).take i))=s at h3 hle ih
    generalize l[i]=e at hg hfe h77 hle ih
    generalize txt (shP e)=t at h77 hle ih
    simp -implicitDefEqProofs[h0,h3,h4,exS,hlt,hlt',hg,hcl,hi0',hi0n,B_cat,B_size]
    refine⟨by omega,by omega,call_go (h77 _) ?_⟩
    simp -implicitDefEqProofs[h0,h3,h4,exS,B_cat,B_size]
    refine⟨by omega,?_⟩
    refine ih _ (by omega) ?_ ?_ ?_
    all_goals simp[h0,exS,B_cat,wrap_suc (show i<9223372036854775807 by omega)]
theorem ok74 {l:List Ex} (hl:l.length<4611686018427387904) (hIH:∀ e∈l,Sh77 e) (hf:∀ e∈l,fineE e=true) (hb:(txt (lsP (shL l))).length≤4611686018427387904):Ok Tryz.prog 74 [exS l] H (.ret (st (B (txt (lsP (shL l)))))) H:=by
 refine ok_fn hm Tryz.func74 c74 (by simp[exS]) fun hcl => ?_
 simp -implicitDefEqProofs[i74,r74,exS]
 refine loop74 hl hIH hf hb (fun env h3 => ?_) l.length 0 _ (by omega) ?_ ?_ ?_
 · simp -implicitDefEqProofs[h3]
   exact cv_id
 all_goals simp[exS,lsP,txt]
end
end Go.Proofs.YtcejichidnlicaaGreatDoor
namespace Go.Proofs.YtcejichidnlicaaGreatDoor
open Go.Ab
variable [FrEnv]
section
variable {H:List AO}
theorem fineL_mem:∀ {l:List Ex},fineL l=true->∀ e∈l,fineE e=true
 | x::r,h,e,he=>by
  rw[fineL,Bool.and_eq_true]at h
  rw[List.mem_cons]at he
  rcases he with rfl | he
  · exact h.1
  · exact fineL_mem h.2 e he
theorem sh_one {op n p:Int} {nm:List UInt8} {l:List Ex} (h1:op=1) (hf:fineE (.mk op n nm l p)=true):Ok Tryz.prog 33 [(Ex.mk op n nm l p).v] H (.ret (st (B (txt (shP (.mk op n nm l p)))))) H:=by
 obtain⟨k1,k2,k3,k4,k5,k6,k7⟩:=fineE_iff.1 hf
 subst h1
 have e1:txt (shP (.mk 1 n nm l p))=decN n.toNat:=by simp[shP,shK,txt,TK.tx]
 have hn:((n.toNat:Nat):Int)=n:=by omega
 have h45:=fun H=>ok72 (H:=H) (n:=n.toNat) (by omega)
 rw[hn]at h45
 rw[e1]
 refine ok_fn hm Tryz.func33 c33 (by simp) fun hcl => ?_
 simp -implicitDefEqProofs[i33,r33,Ex.v,Ex.c]
 refine call_go (h45 _) ?_
 simp -implicitDefEqProofs
 exact cv_fz 3 hcl rfl rfl
theorem sh_two {op n p:Int} {nm:List UInt8} {l:List Ex} (h1:op=2):Ok Tryz.prog 33 [(Ex.mk op n nm l p).v] H (.ret (st (B (txt (shP (.mk op n nm l p)))))) H:=by
 subst h1
 have e1:txt (shP (.mk 2 n nm l p))=nm:=by simp[shP,shK,txt,TK.tx]
 rw[e1]
 refine ok_fn hm Tryz.func33 c33 (by simp) fun hcl => ?_
 simp -implicitDefEqProofs[i33,r33,Ex.v,Ex.c]
 exact cv_fz 3 hcl rfl rfl
theorem sh_un {op n p:Int} {nm:List UInt8} {a:Ex} (h1:op=3∨op=4) (ha:Sh77 a) (fa:fineE a=true) (hb:(txt (shP (.mk op n nm [a] p))).length≤4611686018427387904):Ok Tryz.prog 33 [(Ex.mk op n nm [a] p).v] H (.ret (st (B (txt (shP (.mk op n nm [a] p)))))) H:=by
 have h97:=fun h H=>ok73 (H:=H) ha fa h
 rcases h1 with rfl | rfl
 · have e1:txt (shP (.mk 3 n nm [a] p))=[45,32]++txt (opP (a.op,shP a)):=by simp[shP,shK,shL,ndP,txt,TK.tx]
   rw[e1]at hb ⊢
   simp only[List.length_append,List.length_cons,List.length_nil]at hb
   have h97:=h97 (by omega)
   generalize txt (opP (a.op,shP a))=t at h97 hb ⊢
   obtain⟨o,x,y,z,w⟩:=a
   simp only[Ex.v,Ex.c]at h97
   refine ok_fn hm Tryz.func33 c33 (by simp) fun hcl => ?_
   simp -implicitDefEqProofs[i33,r33,Ex.v,Ex.c,Ex.cL]
   refine call_go (h97 _) ?_
   simp -implicitDefEqProofs[B_cat,B_size]
   refine⟨by omega,?_⟩
   exact cv_fz 3 hcl rfl rfl
 · have e1:txt (shP (.mk 4 n nm [a] p))=[110,111,116,32]++txt (opP (a.op,shP a)):=by simp[shP,shK,shL,ndP,txt,TK.tx]
   rw[e1]at hb ⊢
   simp only[List.length_append,List.length_cons,List.length_nil]at hb
   have h97:=h97 (by omega)
   generalize txt (opP (a.op,shP a))=t at h97 hb ⊢
   obtain⟨o,x,y,z,w⟩:=a
   simp only[Ex.v,Ex.c]at h97
   refine ok_fn hm Tryz.func33 c33 (by simp) fun hcl => ?_
   simp -implicitDefEqProofs[i33,r33,Ex.v,Ex.c,Ex.cL]
   refine call_go (h97 _) ?_
   simp -implicitDefEqProofs[B_cat,B_size]
   refine⟨by omega,?_⟩
   exact cv_fz 3 hcl rfl rfl
theorem sh_call {op n p:Int} {nm:List UInt8} {l:List Ex} (h1:op=18∨op=19∨op=20) (hl:l.length<4611686018427387904) (hIH:∀ e∈l,Sh77 e) (hf:∀ e∈l,fineE e=true) (hb:(txt (shP (.mk op n nm l p))).length≤4611686018427387904):Ok Tryz.prog 33 [(Ex.mk op n nm l p).v] H (.ret (st (B (txt (shP (.mk op n nm l p)))))) H:=by
 have h79:=fun h H=>ok74 (H:=H) hl hIH hf h
 have e1:txt (shP (.mk op n nm l p))=wrdT op++[40]++txt (lsP (shL l))++[41]:=by
  rcases h1 with rfl | rfl | rfl<;>simp[shP,shK,txt,txt_app,TK.tx]
 rw[e1]at hb ⊢
 simp only[List.length_append,List.length_cons,List.length_nil]at hb
 have h79:=h79 (by omega)
 generalize txt (lsP (shL l))=t at h79 hb ⊢
 simp only[exS]at h79
 have w0:IntKind.i64.wrap 0=0:=by decide
 have w1:IntKind.i64.wrap 1=1:=by decide
 have w2:IntKind.i64.wrap 2=2:=by decide
 rcases h1 with rfl | rfl | rfl
 · refine ok_fn hm Tryz.func33 c33 (by simp) fun hcl => ?_
   simp -implicitDefEqProofs[i33,r33,Ex.v,Ex.c,w0]
   refine callq_go (fun _=>h79 _) ?_
   simp -implicitDefEqProofs[w0,B_cat,B_size]
   refine⟨okC_go (h79 _),by omega,by omega,?_⟩
   refine cv_fz 3 hcl rfl ?_
   simp[wrdT]
 · refine ok_fn hm Tryz.func33 c33 (by simp) fun hcl => ?_
   simp -implicitDefEqProofs[i33,r33,Ex.v,Ex.c,w1]
   refine callq_go (fun _=>h79 _) ?_
   simp -implicitDefEqProofs[w1,B_cat,B_size]
   refine⟨okC_go (h79 _),by omega,by omega,?_⟩
   refine cv_fz 3 hcl rfl ?_
   simp[wrdT]
 · refine ok_fn hm Tryz.func33 c33 (by simp) fun hcl => ?_
   simp -implicitDefEqProofs[i33,r33,Ex.v,Ex.c,w2]
   refine callq_go (fun _=>h79 _) ?_
   simp -implicitDefEqProofs[w2,B_cat,B_size]
   refine⟨okC_go (h79 _),by omega,by omega,?_⟩
   refine cv_fz 3 hcl rfl ?_
   simp[wrdT]
theorem binT_tx {op:Int}:(binT op).tx=binS.getD (op-5).toNat []:=by
 unfold binT; split<;>rfl
theorem sh_bin {op n p:Int} {nm:List UInt8} {a b:Ex} (h5:5≤op) (h17:op≤17) (ha:Sh77 a) (hbb:Sh77 b) (fa:fineE a=true) (fb:fineE b=true) (hb:(txt (shP (.mk op n nm [a,b] p))).length≤4611686018427387904):Ok Tryz.prog 33 [(Ex.mk op n nm [a,b] p).v] H (.ret (st (B (txt (shP (.mk op n nm [a,b] p)))))) H:=by
 have ha97:=fun h H=>ok73 (H:=H) ha fa h
 have hb97:=fun h H=>ok73 (H:=H) hbb fb h
 have e1:txt (shP (.mk op n nm [a,b] p))=txt (opP (a.op,shP a))++[32]++binS.getD (op-5).toNat []++[32]++txt (opP (b.op,shP b)):=by
  rw[←binT_tx]
  simp[shP,shK,shL,ndP,txt,txt_app,show ¬ op=1 by omega,show ¬ op=2 by omega,show ¬ op=3 by omega,show ¬ op=4 by omega,show ¬ 18≤op by omega]
 rw[e1]at hb ⊢
 simp only[List.length_append,List.length_cons,List.length_nil]at hb
 have ha97:=ha97 (by omega)
 have hb97:=hb97 (by omega)
 generalize txt (opP (a.op,shP a))=t at ha97 hb ⊢
 generalize txt (opP (b.op,shP b))=u at hb97 hb ⊢
 obtain⟨o,x,y,z,w⟩:=a
 obtain⟨o',x',y',z',w'⟩:=b
 simp only[Ex.v,Ex.c]at ha97 hb97
 have hc:op=5∨op=6∨op=7∨op=8∨op=9∨op=10∨op=11∨op=12∨op=13∨op=14∨op=15∨op=16∨op=17:=by omega
 rcases hc with rfl | rfl | rfl | rfl | rfl | rfl | rfl | rfl | rfl | rfl | rfl | rfl | rfl
 · have e2:binS.getD (5-5:Int).toNat []=[42]:=rfl
   rw[e2]at hb ⊢
   simp only[List.length_cons,List.length_nil]at hb
   have w0:IntKind.i64.wrap 0=0:=by decide
   refine ok_fn hm Tryz.func33 c33 (by simp) fun hcl => ?_
   simp -implicitDefEqProofs[i33,r33,Ex.v,Ex.c,Ex.cL,w0]
   refine callq_go (fun _=>ha97 _) ?_
   simp -implicitDefEqProofs[B_cat,B_size]
   refine⟨by omega,by omega,by omega,callq_go (fun _=>hb97 _) ?_⟩
   simp -implicitDefEqProofs[B_cat,B_size]
   refine⟨by omega,?_⟩
   refine cv_fz 3 hcl rfl ?_
   simp
 · have e2:binS.getD (6-5:Int).toNat []=[47]:=rfl
   rw[e2]at hb ⊢
   simp only[List.length_cons,List.length_nil]at hb
   have w0:IntKind.i64.wrap 1=1:=by decide
   refine ok_fn hm Tryz.func33 c33 (by simp) fun hcl => ?_
   simp -implicitDefEqProofs[i33,r33,Ex.v,Ex.c,Ex.cL,w0]
   refine callq_go (fun _=>ha97 _) ?_
   simp -implicitDefEqProofs[B_cat,B_size]
   refine⟨by omega,by omega,by omega,callq_go (fun _=>hb97 _) ?_⟩
   simp -implicitDefEqProofs[B_cat,B_size]
   refine⟨by omega,?_⟩
   refine cv_fz 3 hcl rfl ?_
   simp
 · have e2:binS.getD (7-5:Int).toNat []=[37]:=rfl
   rw[e2]at hb ⊢
   simp only[List.length_cons,List.length_nil]at hb
   have w0:IntKind.i64.wrap 2=2:=by decide
   refine ok_fn hm Tryz.func33 c33 (by simp) fun hcl => ?_
   simp -implicitDefEqProofs[i33,r33,Ex.v,Ex.c,Ex.cL,w0]
   refine callq_go (fun _=>ha97 _) ?_
   simp -implicitDefEqProofs[B_cat,B_size]
   refine⟨by omega,by omega,by omega,callq_go (fun _=>hb97 _) ?_⟩
   simp -implicitDefEqProofs[B_cat,B_size]
   refine⟨by omega,?_⟩
   refine cv_fz 3 hcl rfl ?_
   simp
 · have e2:binS.getD (8-5:Int).toNat []=[43]:=rfl
   rw[e2]at hb ⊢
   simp only[List.length_cons,List.length_nil]at hb
   have w0:IntKind.i64.wrap 3=3:=by decide
   refine ok_fn hm Tryz.func33 c33 (by simp) fun hcl => ?_
   simp -implicitDefEqProofs[i33,r33,Ex.v,Ex.c,Ex.cL,w0]
   refine callq_go (fun _=>ha97 _) ?_
   simp -implicitDefEqProofs[B_cat,B_size]
   refine⟨by omega,by omega,by omega,callq_go (fun _=>hb97 _) ?_⟩
   simp -implicitDefEqProofs[B_cat,B_size]
   refine⟨by omega,?_⟩
   refine cv_fz 3 hcl rfl ?_
   simp
 · have e2:binS.getD (9-5:Int).toNat []=[45]:=rfl
   rw[e2]at hb ⊢
   simp only[List.length_cons,List.length_nil]at hb
   have w0:IntKind.i64.wrap 4=4:=by decide
   refine ok_fn hm Tryz.func33 c33 (by simp) fun hcl => ?_
   simp -implicitDefEqProofs[i33,r33,Ex.v,Ex.c,Ex.cL,w0]
   refine callq_go (fun _=>ha97 _) ?_
   simp -implicitDefEqProofs[B_cat,B_size]
   refine⟨by omega,by omega,by omega,callq_go (fun _=>hb97 _) ?_⟩
   simp -implicitDefEqProofs[B_cat,B_size]
   refine⟨by omega,?_⟩
   refine cv_fz 3 hcl rfl ?_
   simp
 · have e2:binS.getD (10-5:Int).toNat []=[61,61]:=rfl
   rw[e2]at hb ⊢
   simp only[List.length_cons,List.length_nil]at hb
   have w0:IntKind.i64.wrap 5=5:=by decide
   refine ok_fn hm Tryz.func33 c33 (by simp) fun hcl => ?_
   simp -implicitDefEqProofs[i33,r33,Ex.v,Ex.c,Ex.cL,w0]
   refine callq_go (fun _=>ha97 _) ?_
   simp -implicitDefEqProofs[B_cat,B_size]
   refine⟨by omega,by omega,by omega,callq_go (fun _=>hb97 _) ?_⟩
   simp -implicitDefEqProofs[B_cat,B_size]
   refine⟨by omega,?_⟩
   refine cv_fz 3 hcl rfl ?_
   simp
 · have e2:binS.getD (11-5:Int).toNat []=[33,61]:=rfl
   rw[e2]at hb ⊢
   simp only[List.length_cons,List.length_nil]at hb
   have w0:IntKind.i64.wrap 6=6:=by decide
   refine ok_fn hm Tryz.func33 c33 (by simp) fun hcl => ?_
   simp -implicitDefEqProofs[i33,r33,Ex.v,Ex.c,Ex.cL,w0]
   refine callq_go (fun _=>ha97 _) ?_
   simp -implicitDefEqProofs[B_cat,B_size]
   refine⟨by omega,by omega,by omega,callq_go (fun _=>hb97 _) ?_⟩
   simp -implicitDefEqProofs[B_cat,B_size]
   refine⟨by omega,?_⟩
   refine cv_fz 3 hcl rfl ?_
   simp
 · have e2:binS.getD (12-5:Int).toNat []=[60]:=rfl
   rw[e2]at hb ⊢
   simp only[List.length_cons,List.length_nil]at hb
   have w0:IntKind.i64.wrap 7=7:=by decide
   refine ok_fn hm Tryz.func33 c33 (by simp) fun hcl => ?_
   simp -implicitDefEqProofs[i33,r33,Ex.v,Ex.c,Ex.cL,w0]
   refine callq_go (fun _=>ha97 _) ?_
   simp -implicitDefEqProofs[B_cat,B_size]
   refine⟨by omega,by omega,by omega,callq_go (fun _=>hb97 _) ?_⟩
   simp -implicitDefEqProofs[B_cat,B_size]
   refine⟨by omega,?_⟩
   refine cv_fz 3 hcl rfl ?_
   simp
 · have e2:binS.getD (13-5:Int).toNat []=[60,61]:=rfl
   rw[e2]at hb ⊢
   simp only[List.length_cons,List.length_nil]at hb
   have w0:IntKind.i64.wrap 8=8:=by decide
   refine ok_fn hm Tryz.func33 c33 (by simp) fun hcl => ?_
   simp -implicitDefEqProofs[i33,r33,Ex.v,Ex.c,Ex.cL,w0]
   refine callq_go (fun _=>ha97 _) ?_
   simp -implicitDefEqProofs[B_cat,B_size]
   refine⟨by omega,by omega,by omega,callq_go (fun _=>hb97 _) ?_⟩
   simp -implicitDefEqProofs[B_cat,B_size]
   refine⟨by omega,?_⟩
   refine cv_fz 3 hcl rfl ?_
   simp
 · have e2:binS.getD (14-5:Int).toNat []=[62]:=rfl
   rw[e2]at hb ⊢
   simp only[List.length_cons,List.length_nil]at hb
   have w0:IntKind.i64.wrap 9=9:=by decide
   refine ok_fn hm Tryz.func33 c33 (by simp) fun hcl => ?_
   simp -implicitDefEqProofs[i33,r33,Ex.v,Ex.c,Ex.cL,w0]
   refine callq_go (fun _=>ha97 _) ?_
   simp -implicitDefEqProofs[B_cat,B_size]
   refine⟨by omega,by omega,by omega,callq_go (fun _=>hb97 _) ?_⟩
   simp -implicitDefEqProofs[B_cat,B_size]
   refine⟨by omega,?_⟩
   refine cv_fz 3 hcl rfl ?_
   simp
 · have e2:binS.getD (15-5:Int).toNat []=[62,61]:=rfl
   rw[e2]at hb ⊢
   simp only[List.length_cons,List.length_nil]at hb
   have w0:IntKind.i64.wrap 10=10:=by decide
   refine ok_fn hm Tryz.func33 c33 (by simp) fun hcl => ?_
   simp -implicitDefEqProofs[i33,r33,Ex.v,Ex.c,Ex.cL,w0]
   refine callq_go (fun _=>ha97 _) ?_
   simp -implicitDefEqProofs[B_cat,B_size]
   refine⟨by omega,by omega,by omega,callq_go (fun _=>hb97 _) ?_⟩
   simp -implicitDefEqProofs[B_cat,B_size]
   refine⟨by omega,?_⟩
   refine cv_fz 3 hcl rfl ?_
   simp
 · have e2:binS.getD (16-5:Int).toNat []=[97,110,100]:=rfl
   rw[e2]at hb ⊢
   simp only[List.length_cons,List.length_nil]at hb
   have w0:IntKind.i64.wrap 11=11:=by decide
   refine ok_fn hm Tryz.func33 c33 (by simp) fun hcl => ?_
   simp -implicitDefEqProofs[i33,r33,Ex.v,Ex.c,Ex.cL,w0]
   refine callq_go (fun _=>ha97 _) ?_
   simp -implicitDefEqProofs[B_cat,B_size]
   refine⟨by omega,by omega,by omega,callq_go (fun _=>hb97 _) ?_⟩
   simp -implicitDefEqProofs[B_cat,B_size]
   refine⟨by omega,?_⟩
   refine cv_fz 3 hcl rfl ?_
   simp
 · have e2:binS.getD (17-5:Int).toNat []=[111,114]:=rfl
   rw[e2]at hb ⊢
   simp only[List.length_cons,List.length_nil]at hb
   have w0:IntKind.i64.wrap 12=12:=by decide
   refine ok_fn hm Tryz.func33 c33 (by simp) fun hcl => ?_
   simp -implicitDefEqProofs[i33,r33,Ex.v,Ex.c,Ex.cL,w0]
   refine callq_go (fun _=>ha97 _) ?_
   simp -implicitDefEqProofs[B_cat,B_size]
   refine⟨by omega,by omega,by omega,callq_go (fun _=>hb97 _) ?_⟩
   simp -implicitDefEqProofs[B_cat,B_size]
   refine⟨by omega,?_⟩
   refine cv_fz 3 hcl rfl ?_
   simp
end
theorem sh_step {op n p:Int} {nm:List UInt8} {l:List Ex} (hIH:∀ e∈l,Sh77 e):Sh77 (.mk op n nm l p):=by
 intro hf hb H
 obtain⟨h1,h2,h3,h4,h5,h6,h7⟩:=fineE_iff.1 hf
 have hr:=opN_cases h1
 have hfl:=fineL_mem h7
 by_cases e1:op=1
 · exact sh_one e1 hf
 by_cases e2:op=2
 · exact sh_two e2
 by_cases e3:op=3∨op=4
 · obtain⟨a,rfl⟩:∃ a,l=[a]:=by
    have hl:(l.length:Int)=1:=by rw[h1]; rcases e3 with rfl | rfl<;>rfl
    match l,hl with
    | [a],_=>exact⟨a,rfl⟩
    | [],h=>simp at h
    | a::b::r,h=>simp at h; omega
   exact sh_un e3 (hIH a (by simp)) (hfl a (by simp)) hb
 by_cases e18:18≤op
 · have hop:op=18∨op=19∨op=20:=by omega
   have hl:l.length<4611686018427387904:=by
    have:opN op≤3:=by unfold opN; split<;>(try split)<;>(try split)<;>(try split)<;>omega
    omega
   exact sh_call hop hl hIH hfl hb
 · obtain⟨a,b,rfl⟩:∃ a b,l=[a,b]:=by
    have hl2:(l.length:Int)=2:=by
     rw[h1]; unfold opN
     rw[if_neg (by omega),if_neg (by omega),if_neg (by omega),if_pos (by omega)]
    match l,hl2 with
    | [a,b],_=>exact⟨a,b,rfl⟩
    | [],h=>simp at h
    | [a],h=>simp at h
    | a::b::e::r,h=>simp at h; omega
   exact sh_bin (by omega) (by omega) (hIH a (by simp)) (hIH b (by simp)) (hfl a (by simp)) (hfl b (by simp)) hb
mutual
theorem ok33:∀ e:Ex,Sh77 e
 | .mk op n nm l p=>sh_step (ok77L l)
theorem ok77L:∀ l:List Ex,∀ e∈l,Sh77 e
 | [],e,he=>by simp at he
 | x::r,e,he=>by
  by_cases hx:e=x
  · rw[hx]; exact ok33 x
  · exact ok77L r e (by simpa[hx]using he)
end
end Go.Proofs.YtcejichidnlicaaGreatDoor
namespace Go.Proofs.YtcejichidnlicaaGreatDoor
open Go.Ab
variable [FrEnv]
theorem tyE_kind (vs:List (List UInt8)) (e:Ex) (h:(tyE vs e).2.1≠0):(tyE vs e).1=0:=by
 have hc:∀ (own:Int) (ts ks:List Int) (l:List Ex),(chkT own ts ks l).2.1≠0->(chkT own ts ks l).1=0:=by
  intro own ts
  induction ts with
  | nil=>intro ks l h; simp[chkT]at h
  | cons t ts ih =>
   intro ks l h
   cases ks with
   | nil=>simp[chkT]at h
   | cons k ks =>
    cases l with
    | nil=>simp[chkT]at h
    | cons e l =>
     rw[chkT]at h ⊢
     split
     · rfl
     · rename_i h2; rw[if_neg h2]at h; exact ih ks l h
 cases e with
 | mk op k nm l p =>
  rw[tyE]at h ⊢
  cases ho:opOf op with
  | none =>
   simp only[ho]at h ⊢
   by_cases h1:op=1∨op=2
   · rw[if_pos h1]at h ⊢
     by_cases h2:l.length≠0
     · rw[if_pos h2]
     · rw[if_neg h2]at h ⊢
       by_cases h3:op=2∧nm∉vs
       · rw[if_pos h3]
       · rw[if_neg h3]at h; exact absurd rfl h
   · rw[if_neg h1]
  | some o =>
   simp only[ho]at h ⊢
   by_cases hl:l.length≠o.1.length
   · rw[if_pos hl]
   · rw[if_neg hl]at h ⊢
     cases hk:tyL vs l with
     | error f=>rfl
     | ok ks=>rw[hk]at h; exact hc _ _ _ _ h
theorem tyL_err {vs:List (List UInt8)}:∀ {l:List Ex} {f:Int×Int},tyL vs l=.error f->f.1≠0
 | [],f,h=>by simp[tyL]at h
 | e::r,f,h=>by
  rw[tyL]at h
  split at h
  · rename_i he; cases h; exact he
  · split at h
    · rename_i hr; cases h; exact tyL_err hr
    · cases h
theorem tyE_ok (vs:List (List UInt8)) (e:Ex) (h:(tyE vs e).2.1=0):(tyE vs e).2.2=0:=by
 have hc:∀ (own:Int) (ts ks:List Int) (l:List Ex),(chkT own ts ks l).2.1=0->(chkT own ts ks l).2.2=0:=by
  intro own ts
  induction ts with
  | nil=>intro ks l h; simp[chkT]
  | cons t ts ih =>
   intro ks l h
   cases ks with
   | nil=>simp[chkT]
   | cons k ks =>
    cases l with
    | nil=>simp[chkT]
    | cons e l =>
     rw[chkT]at h ⊢
     split
     · rename_i h2; rw[if_pos h2]at h; exact absurd h (show ¬ (10:Int)=0 by decide)
     · rename_i h2; rw[if_neg h2]at h; exact ih ks l h
 cases e with
 | mk op k nm l p =>
  rw[tyE]at h ⊢
  cases ho:opOf op with
  | none =>
   simp only[ho]at h ⊢
   by_cases h1:op=1∨op=2
   · rw[if_pos h1]at h ⊢
     by_cases h2:l.length≠0
     · rw[if_pos h2]at h; exact absurd h (show ¬ (3:Int)=0 by decide)
     · rw[if_neg h2]at h ⊢
       by_cases h3:op=2∧nm∉vs
       · rw[if_pos h3]at h; exact absurd h (show ¬ (7:Int)=0 by decide)
       · rw[if_neg h3]
   · rw[if_neg h1]at h; exact absurd h (show ¬ (3:Int)=0 by decide)
  | some o =>
   simp only[ho]at h ⊢
   by_cases hl:l.length≠o.1.length
   · rw[if_pos hl]at h; exact absurd h (show ¬ (3:Int)=0 by decide)
   · rw[if_neg hl]at h ⊢
     cases hk:tyL vs l with
     | error f=>rw[hk]at h; exact absurd h (tyL_err hk)
     | ok ks=>rw[hk]at h; exact hc _ _ _ _ h
section
variable {H:List AO} {vs:List (List UInt8)} {rest:List SV} {j:Nat} {T:TypeId}
theorem ok77x {x:SV} (hx:IsS H x vs) {e:Ex} (hh:e.hgt≤100000) (hl:vs.length<4611686018427387904):Ok Tryz.prog 77 [x,e.v] H (.ret (.tup [i64 (tyE vs e).1,fltV (tyE vs e).2.1 (tyE vs e).2.2])) H:=by
 refine ok_fn hm Tryz.func77 c77 (by simp) fun hcl => ?_
 simp -implicitDefEqProofs[i77,r77,Ex.v]
 refine call_go (ok97x (hx.app _) hl) ?_
 simp -implicitDefEqProofs[typV,varsM,opsM]
 refine call_go (ok98 (vs:=vs) (rest:=[]) (T:=114) e 0 (by omega) (by simp[tyO,varsM,opsM])) ?_
 have hkd:=tyE_kind vs e
 have tyE_ok':=tyE_ok vs e
 generalize tyE vs e=x at hkd tyE_ok' ⊢
 by_cases he:x.2.1=0
 · have hev:errV x.2.1 x.2.2=.val .nilIface:=by rw[he]; rfl
   rw[hev]
   have hp:=tyE_ok' he
   simp -implicitDefEqProofs
   refine cv_fz 4 hcl rfl ?_
   simp[fltV,he,hp]
 · have hev:=errV_of he x.2.2
   rw[hkd he]
   simp -implicitDefEqProofs[hev]
   refine call_go (by rw[←hev]; exact ok99 he x.2.2) ?_
   simp -implicitDefEqProofs[fltV]
   refine cv_fz 4 hcl rfl ?_
   simp
end
end Go.Proofs.YtcejichidnlicaaGreatDoor
namespace Go.Proofs.YtcejichidnlicaaGreatDoor
open Go.Ab
variable [FrEnv]
def xS:List (List UInt8):=[[120]]
mutual
def nmb:Ex->Bool
 | .mk _ _ nm l _=>decide (nm.length<4611686018427387904)&&nmbL l
def nmbL:List Ex->Bool
 | []=>true
 | e::r=>nmb e&&nmbL r
end
mutual
theorem nmb_ok:∀ e:Ex,nmb e=true->e.nmB
 | .mk _ _ nm l _,h=>by
  rw[nmb,Bool.and_eq_true,decide_eq_true_eq]at h
  exact⟨h.1,nmbL_ok l h.2⟩
theorem nmbL_ok:∀ l:List Ex,nmbL l=true->Ex.nmBL l
 | [],_=>trivial
 | e::r,h=>by
  rw[nmbL,Bool.and_eq_true]at h
  exact⟨nmb_ok e h.1,nmbL_ok r h.2⟩
end
section
variable {H:List AO}
theorem ok17 {e:Ex} {s:List UInt8} (hn:e.nmB) (hf:fineE e=true) (hs:txt (shP e)=s) (hl:s.length≤20000) (hr:(exprR s).2.1=0):Ok Tryz.prog 17 [e.v] H (.ret (.tup [st (B s),i64 0])) H:=by
 have h32:=fun H=>ok32 e hn H
 rw[hf]at h32
 have h33:=fun H=>ok33 e hf (by rw[hs]; omega) H
 rw[hs]at h33
 have h31:=fun H=>ok31 (H:=H) (l:=s) (by omega)
 have hu:∀ n,e.v.under n=true:=fun n=>Ex.und_v n _
 have hcE:∃ c,e.v=.agg c∧c.length=5∧cellsOk c:=⟨e.c,rfl,by simp,by
  intro x hx
  obtain⟨op,n,nm,l,p⟩:=e
  simp only[Ex.c,List.mem_cons,List.not_mem_nil,or_false]at hx
  rcases hx with rfl | rfl | rfl | rfl | rfl<;>rfl⟩
 generalize exprR s=q at h31 hr
 obtain⟨⟨op,n,nm,es,p⟩,er,at_⟩:=q
 simp only[Ex.v,Ex.c]at h31
 simp only at hr
 subst hr
 refine ok_fn hm Tryz.func17 c17 (by simp[hu]) fun hcl => ?_
 obtain⟨c,hc,hc5,hcc⟩:=hcE
 rw[hc]at h32 h33 ⊢
 have ht:List.take 5 c=c:=List.take_of_length_le (by omega)
 have hll:(s.length:Int)≤20000:=by omega
 have hll':¬ (20000:Int)<s.length:=by omega
 simp -implicitDefEqProofs[i17,r17,hcc,hc5,ht]
 refine call_go (h32 _) ?_
 simp -implicitDefEqProofs[hcc,hc5,ht]
 refine call_go (h33 _) ?_
 simp -implicitDefEqProofs[hll,hll',B]
 refine call_go (h31 _) ?_
 simp -implicitDefEqProofs[fltV,B]
 exact cv_fz 3 hcl rfl (by simp)
theorem newM0:Ok Tryz.prog 25 [.val (.slice none 0 0),.val (.slice none 0 0)] H (.ret (macV [] [])) H :=
 Ok.le (leL.cons le_nil (leL.cons le_nil leL.nil)) (ok25 [] [])
theorem ok37x {x:SV} {vars:List (List UInt8)} {e:Ex} (hx:IsS H x vars) (hvl:vars.length<4611686018427387904) (hh:e.hgt≤100000) (ht:(tyE vars e).2.1=0) (hw:wdE e=true):Ok Tryz.prog 37 [x,e.v] H (.ret (.tup [(foldE e).e.v,fltV 0 0])) H:=by
 have h77:=fun L=>ok77x (H:=H++L) (hx.app L) hh hvl
 have h78:=fun H=>ok78 (H:=H) (ns:=[]) (vs:=[]) e 0 hw (by omega)
 have hty:=tyE_ok vars e ht
 rw[ht,hty]at h77
 refine ok_fn hm Tryz.func37 c37 (by simp[Ex.und_v,hx.und]) fun hcl => ?_
 obtain⟨op,n,nm,l,p⟩:=e
 simp only[Ex.v,Ex.c]at h77 h78
 simp -implicitDefEqProofs[i37,r37,Ex.v,Ex.c]
 refine call_go (h77 _) ?_
 simp -implicitDefEqProofs[fltV]
 refine callq_go (fun _=>newM0) ?_
 generalize foldE (.mk op n nm l p)=f at h78 ⊢
 have hc5:=Fo.c_5 f
 have hc9:=Fo.c_len f
 have he5:=Ex.c_len f.e
 have hcc:cellsOk f.e.c:=by
  obtain⟨⟨op,n,nm,l,p⟩,_,_,_⟩:=f
  intro x hx
  simp only[Ex.c,List.mem_cons,List.not_mem_nil,or_false]at hx
  rcases hx with rfl | rfl | rfl | rfl | rfl<;>rfl
 simp -implicitDefEqProofs
 refine call_go (h78 _) ?_
 simp -implicitDefEqProofs[hc5,hc9,he5,hcc]
 exact⟨⟨rfl,newM0⟩,cv_fz 3 hcl rfl (fz_under (by simp[SV.under,Ex.und]))⟩
def foldK (l w:List UInt8):Bool :=
 let e:=(exprR l).1
 let f:=(foldE e).e
 decide (l.length<4611686018427387904)&&(decide (e.hgt≤100000)&&(decide ((tyE xS e).2.1=0)&&(wdE e&&(nmb f&&(fineE f&&(decide (txt (shP f)=w)&&(decide (w.length≤20000)&&decide ((exprR w).2.1=0))))))))
theorem ok21 {l w:List UInt8} (hk:foldK l w=true):Ok Tryz.prog 21 [st (B l),st (B w)] H (.ret (bl true)) H:=by
 simp only[foldK,Bool.and_eq_true,decide_eq_true_eq]at hk
 obtain⟨k1,k2,k3,k4,k5,k6,k7,k8,k9⟩:=hk
 have h16:=fun H=>ok16 (H:=H) k1
 have h37:=fun H x (hx:IsS H x xS)=>ok37x hx (by decide) k2 k3 k4
 have h17:=fun H=>ok17 (H:=H) (nmb_ok _ k5) k6 k7 k8 k9
 generalize (foldE (exprR l).1).e=f at h37 h17
 have hu:∀ n,(exprR l).1.v.under n=true:=fun n=>Ex.und_v n _
 generalize (exprR l).1.v=x at h16 h37 hu
 refine ok_fn hm Tryz.func21 c21 (by simp) fun hcl => ?_
 obtain⟨op,n,nm,es,p⟩:=f
 simp only[Ex.v,Ex.c]at h17 h37
 simp -implicitDefEqProofs[i21,r21]
 refine call_go (h16 _) ?_
 simp -implicitDefEqProofs
 refine call_go (h37 _ _ (IsS.own1 (T:=9) (k:=0) rfl rfl)) ?_
 simp -implicitDefEqProofs[fltV]
 refine call_go (h17 _) ?_
 simp -implicitDefEqProofs
 exact cv_fz 4 hcl rfl (by simp)
end
end Go.Proofs.YtcejichidnlicaaGreatDoor
