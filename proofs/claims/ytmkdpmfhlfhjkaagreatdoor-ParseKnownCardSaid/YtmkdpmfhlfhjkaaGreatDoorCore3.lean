/-
  Steps of the proof: contracts of functions and plain facts that the statement rests on.
-/
import Derived.Test.YtmkdpmfhlfhjkaaGreatDoorCore2
import Derived.Below
import Derived.ChangeArms
import Derived.DataReads
import Derived.WideShapes
import Derived.RowKit
import Derived.WalkKit
import Derived.ProofKit
import Derived.OpenShut
import Derived.ShutString
import Derived.ChangeOld
import Derived.Carry
import Derived.KernelRfl
set_option linter.all false
namespace Go.Ab
variable [GlobEnv] [FrEnv] [KnEnv]
inductive RS where
 | t (n:Nat)
 | c1 (slot:Nat)
 | cn (slot n:Nat)
def RS.side (e:Env) (H:List AO):RS->Prop
 | .t _=>True
 | .c1 s=>(e.get s).vd=true∧0<((e.get s).ug.at H).length
 | .cn s n=>(e.get s).vd=true∧n≤((e.get s).ug.at H).length∧0<n
def RS.ev (e:Env) (H:List AO):RS->SV
 | .t n=>e.get n
 | .c1 s=>((e.get s).ug.at H).headD .any
 | .cn s n=>.agg (((e.get s).ug.at H).take n)
def resV (e:Env) (H:List AO) (rs:List RS):SV :=
 match rs.map (RS.ev e H)with
 | [x]=>x
 | l=>.tup l
def chkRs (P:Program):ResultVar->RS->Bool
 | .tmp t,.t n=>t==n
 | .cell t T,.c1 s=>t==s&&oneB P T
 | .cell t T,.cn s n=>t==s&&aggB P T&&sizeB P T n
 | _,_=>false
def chkRes (P:Program):List ResultVar->List RS->Bool
 | [],[]=>true
 | x::r,y::s=>chkRs P x y&&chkRes P r s
 | _,_=>false
def Cv (n0:Nat) (r1:SV) (H1:List AO) (r:SV) (H':List AO):Prop :=
 ∀ (S:St) (v:Value),S.H=H1->Sim S->VR S r1 v->∃ ρ',Ext n0 S ⟨ρ',H',S.w⟩∧Sim ⟨ρ',H',S.w⟩∧VR ⟨ρ',H',S.w⟩ r v
def Fin (n0:Nat) (rs:List RS) (out:Out) (H':List AO):XE->Env->List AO->Prop:=fun x env H1 =>
 match x,out with
 | .normal,.ret r=>(∀ s∈rs,s.side env H1)∧Cv n0 (resV env H1 rs) H1 r H'
 | .ret,.ret r=>(∀ s∈rs,s.side env H1)∧Cv n0 (resV env H1 rs) H1 r H'
 | .panic x,.pan y=>Cv n0 x H1 y H'
 | _,_=>False
def argsEnv (l:List SV):Env:=(List.range l.length).zip l
section
variable {P:Program} {S:St} {N:Nat} {D:Array Oper->List Nat->List Ins->Bool}
theorem zip_get (l:List SV) (k t:Nat):Env.get ((List.range' k l.length).zip l) t=if k≤t∧t<k+l.length then l.getD (t-k) .any else .any:=by
 induction l generalizing k with
 | nil=>simp[Env.get]
 | cons x r ih =>
  simp only[List.length_cons,List.range'_succ,List.zip_cons_cons,Env.get]
  rw[ih]
  by_cases h:k=t
  · subst h; simp
  · rw[if_neg h]
    by_cases h1:k+1≤t∧t<k+1+r.length
    · rw[if_pos h1,if_pos (by omega)]
      have:t-k=(t-(k+1))+1:=by omega
      rw[this]; simp
    · rw[if_neg h1,if_neg (by omega)]
theorem argsEnv_rel {args:List SV} {vs:List Value} (h:VRs S args vs) (m:Nat):EnvR S (argsEnv args) (vs.toArray++Array.replicate m undef):=by
 refine⟨fun t => ?_⟩
 unfold argsEnv
 rw[List.range_eq_range',zip_get]
 by_cases ht:0≤t∧t<0+args.length
 · rw[if_pos ht]
   obtain⟨u,h1,h2⟩:=h.getD (j:=t) (by omega)
   have hlt:t<vs.length:=getElem?_lt h1
   rw[Array.getD_eq_getD_getElem?,Array.getElem?_append]
   rw[if_pos (by simpa using hlt)]
   simp only[List.getElem?_toArray,h1,Option.getD_some,Nat.sub_zero]; exact h2
 · rw[if_neg ht]; exact .any _
def readRes (tmps:Array Value):ResultVar->Sem Value
 | .tmp t=>pure (tmps.getD t undef)
 | .cell a t=>do loadVar t (← asAddr (tmps.getD a undef))
theorem results_eq (fn:Func) (tmps:Array Value):results fn tmps=(do
 let vs <- fn.results.mapM (readRes tmps)
 pure (if h:vs.size=1 then vs[0]else .tuple vs)):=by
 unfold results
 congr 1
theorem run_res {e:Env} {tmps:Array Value} (hS:Sim S) (he:EnvR S e tmps):∀ {rvs:List ResultVar} {rs:List RS},chkRes P rvs rs=true->(∀ s∈rs,s.side e S.H) →
 ∃ vs,(rvs.mapM (readRes tmps)).run P S.w=.ok vs S.w∧VRs S (rs.map (RS.ev e S.H)) vs
 | [],[],_,_=>⟨[],rfl,VRs.nil S⟩
 | [],_::_,h,_=>by simp[chkRes]at h
 | _::_,[],h,_=>by simp[chkRes]at h
 | x::rvs,y::rs,h,hs=>by
  simp only[chkRes,Bool.and_eq_true]at h
  obtain⟨vs,h1,h2⟩:=run_res hS he h.2 (fun s hm=>hs s (by simp[hm]))
  have h3:=hs y (by simp)
  have h4:=h.1
  unfold chkRs at h4
  split at h4
  · rename_i t n
    simp at h4; subst h4
    refine⟨tmps.getD t undef::vs,?_,VRs.cons (he.get _) h2⟩
    simp[List.mapM_cons,h1,readRes]
  · rename_i t T s
    simp only[Bool.and_eq_true,beq_iff_eq]at h4
    obtain⟨rfl,h4⟩:=h4
    obtain⟨g1,g2⟩:=h3
    have h5:=(he.get t).ug g1
    obtain⟨u,h6,h7⟩:=run_ld1 (P:=P) hS h5 h4 g2
    have h0:((e.get t).ug.at S.H)[0]? = some ((e.get t).ug.at S.H)[0]:=List.getElem?_eq_getElem g2
    obtain⟨ad,_,h8,_,_⟩:=h5.at hS h0
    refine⟨u::vs,?_,VRs.cons h7 h2⟩
    rw[h8]at h6
    simp only[Instr.loadAt,Instr.sureAddr,Sem.run_bind,Sem.run_pure,Result.andThen_ok]at h6
    rw[List.mapM_cons,readRes,Sem.run_bind,Sem.run_bind,h8]
    simp only[asAddr,Sem.run_pure,Result.andThen_ok,h6,Sem.run_bind,h1]
  · rename_i t T s n
    simp only[Bool.and_eq_true,beq_iff_eq]at h4
    obtain⟨⟨rfl,h4⟩,h4'⟩:=h4
    obtain⟨g1,g2,g3⟩:=h3
    have h5:=(he.get t).ug g1
    obtain⟨u,h6,h7⟩:=run_ldn (P:=P) hS h5 h4 h4' g2 g3
    have h0:((e.get t).ug.at S.H)[0]? = some (((e.get t).ug.at S.H)[0]'(by omega)):=List.getElem?_eq_getElem (by omega)
    obtain⟨ad,_,h8,_,_⟩:=h5.at hS h0
    refine⟨u::vs,?_,VRs.cons h7 h2⟩
    rw[h8]at h6
    simp only[Instr.loadAt,Instr.sureAddr,Sem.run_bind,Sem.run_pure,Result.andThen_ok]at h6
    rw[List.mapM_cons,readRes,Sem.run_bind,Sem.run_bind,h8]
    simp only[asAddr,Sem.run_pure,Result.andThen_ok,h6,Sem.run_bind,h1]
  · cases h4
theorem run_results {fn:Func} {e:Env} {tmps:Array Value} (hS:Sim S) (he:EnvR S e tmps) {rs:List RS} (hc:chkRes P fn.results.toList rs=true) (hs:∀ s∈rs,s.side e S.H) :
 ∃ v,(results fn tmps).run P S.w=.ok v S.w∧VR S (resV e S.H rs) v:=by
 obtain⟨vs,h1,h2⟩:=run_res hS he hc hs
 have h3:∃ arr:Array Value,arr=vs.toArray∧(results fn tmps).run P S.w=.ok (if h:arr.size=1 then arr[0]else .tuple arr) S.w:=by
  refine⟨vs.toArray,rfl,?_⟩
  rw[results_eq,Array.mapM_eq_mapM_toList]
  simp only[Sem.run_bind,Sem.run_map,h1,Result.andThen_ok,Sem.run_pure]
 obtain⟨arr,rfl,h3⟩:=h3
 refine⟨_,h3,?_⟩
 unfold resV
 revert h2
 generalize rs.map (RS.ev e S.H)=l
 intro h2
 match l,vs,h2 with
 | [],[],h2=>exact VR.of_tup h2
 | [x],[v],h2=>exact h2.2 0 x v rfl rfl
 | x::y::r,v::u::s,h2 =>
  rw[dif_neg (by simp)]
  exact VR.of_tup h2
 | [],_::_,h2=>simp[VRs]at h2
 | [_],[],h2=>simp[VRs]at h2
 | [_],_::_::_,h2=>simp[VRs]at h2
 | _::_::_,[],h2=>simp[VRs]at h2
 | _::_::_,[_],h2=>simp[VRs]at h2
structure Turned (n0:Nat) (w w':World):Prop where
 size:w'.heap.size=w.heap.size
 at_:∀ k,w'.heap[k]? = w.heap[k]? ∨ (n0≤k∧w.heap[k]? = some (Obj.deferred (some []))∧w'.heap[k]? = some (Obj.deferred none))
 os:w'.os=w.os
 tape:w'.tape=w.tape
 output:w'.output=w.output
theorem turned_extV {n0:Nat} {ρ:Nat->Option Nat} {H:List AO} {w w':World} (h:Turned n0 w w'):ExtV H.length ⟨ρ,H,w⟩ ⟨ρ,H,w'⟩:=by
 refine⟨fun i o _ ho=>⟨o,ho,Nat.le_refl _,fun _=>rfl⟩,fun k c T f hk hn=>⟨?_,hn⟩,fun k T m hs => ?_,fun k es cl hk hn=>⟨?_,hn⟩⟩
 · rcases h.at_ k with h1 | ⟨_,h1,_⟩
   · exact h1
   · rw[show(⟨ρ,H,w⟩:St).w.heap[k]? = w.heap[k]? from rfl,h1]at hk; cases hk
 · unfold World.shape? at *
   rcases h.at_ k with h1 | ⟨_,h1,_⟩
   · simp only at hs ⊢; rw[h1]; exact hs
   · simp only at hs; rw[h1]at hs; cases hs
 · rcases h.at_ k with h1 | ⟨_,h1,_⟩
   · exact h1
   · rw[show(⟨ρ,H,w⟩:St).w.heap[k]? = w.heap[k]? from rfl,h1]at hk; cases hk
theorem turned_sim {n0:Nat} {ρ:Nat->Option Nat} {H:List AO} {w w':World} (h:Turned n0 w w') (hS:Sim ⟨ρ,H,w⟩):Sim ⟨ρ,H,w'⟩:=by
 have hv:=turned_extV (ρ:=ρ) (H:=H) h
 have hvs:∀ {l:List SV} {us:List Value},VRs ⟨ρ,H,w⟩ l us->VRs ⟨ρ,H,w'⟩ l us:=fun h=>⟨h.1,fun j s u h1 h2=>(h.2 j s u h1 h2).extV hv (.inl rfl)⟩
 refine⟨fun i o ho hl => ?_,hS.bel,hS.inj,fun i o ho hl hc => ?_,hS.gl.extV hv,hS.kf.extV hv⟩
 · have h1:=hS.live i o ho hl
   simp only at h1 ⊢
   cases hρ:ρ i with
   | none=>rw[hρ]at h1; exact h1
   | some b =>
    rw[hρ]at h1
    obtain⟨us,rest,h2,h3⟩:=h1
    refine⟨us,rest,?_,hvs h3⟩
    rcases h.at_ b with h4 | ⟨_,h4,_⟩
    · rw[h4]; exact h2
    · rw[h4]at h2; cases h2
 · obtain⟨l,x,m,us,env,k1,k2,k3,k4,k6⟩:=hS.lp i o ho hl hc
   refine⟨l,x,m,us,env,k1,k2,?_,k4,hvs k6⟩
   simp only at k3 ⊢
   rcases h.at_ l with h4 | ⟨_,h4,_⟩
   · rw[h4]; exact k3
   · rw[h4]at k3; cases k3; rcases k4.kind with ⟨r,e⟩ | ⟨es,cl,e⟩<;>cases e
theorem turned_ext {n n0:Nat} {S0:St} {ρ:Nat->Option Nat} {H:List AO} {w w':World} (h:Turned n0 w w') (he:Ext n S0 ⟨ρ,H,w⟩) (hn:S0.w.heap.size≤n0):Ext n S0 ⟨ρ,H,w'⟩:=by
 refine⟨he.obj,fun k hk hnr => ?_,by have:=he.size; simp only[h.size]; exact this,fun k T m hs => ?_,fun k r hr => ?_,h.os.trans he.os,h.tape.trans he.tape,h.output.trans he.output⟩
 · obtain⟨h1,h2⟩:=he.imm k hk hnr
   refine⟨?_,h2⟩
   rcases h.at_ k with h3 | ⟨h3,_,_⟩
   · exact h3.trans h1
   · omega
 · exact(turned_extV (ρ:=ρ) (H:=H) h).shape k T m (he.shape k T m hs)
 · obtain⟨r',h1⟩:=he.loops k r hr
   rcases h.at_ k with h3 | ⟨_,h3,_⟩
   · exact⟨r',h3.trans h1⟩
   · simp only at h1; rw[h3]at h1; cases h1
theorem marks_leave {fn:Func} {tmps:Array Value} {R:Ending->World->Prop} {n0:Nat} {u:FrameMode} (hu:u≠.run):∀ (ms:List Nat) (w:World),ms.Nodup->(∀ D∈ms,n0≤D∧w.heap[D]? = some (Obj.deferred (some []))) →
 (∀ w',Turned n0 w w'->LeavesIn (Fr none) 0 P fn tmps R [] u w')->LeavesInM (Fr none) 0 P fn tmps R (ms.map mark) u w
 | [],w,_,_,h=>h w ⟨rfl,fun _=>.inl rfl,rfl,rfl,rfl⟩
 | D::ms,w,hnd,hms,h=>by
  rw[List.nodup_cons]at hnd
  obtain⟨h1,h2⟩:=hms D (by simp)
  refine⟨hu,.inl ⟨D,_,rfl,run_takeDeferred h2,?_⟩⟩
  refine marks_leave hu ms _ hnd.2 (fun D' hD'=>⟨(hms D' (by simp[hD'])).1,?_⟩) fun w' ht=>h w' ?_
  · have hne:D'≠D:=fun e=>hnd.1 (e ▸ hD')
    exact(World.putObj_heap_other hne).trans (hms D' (by simp[hD'])).2
  · refine⟨by rw[ht.size]; simp,fun k => ?_,ht.os,ht.tape,ht.output⟩
    by_cases hk:k=D
    · subst hk
      right
      refine⟨h1,h2,?_⟩
      rcases ht.at_ k with h3 | ⟨_,h3,h4⟩
      · exact h3.trans (World.putObj_heap_same (lt_heap h2))
      · exact h4
    · rcases ht.at_ k with h3 | ⟨h3,h4,h5⟩
      · exact .inl (h3.trans (World.putObj_heap_other hk))
      · exact .inr ⟨h3,(World.putObj_heap_other hk).symm.trans h4,h5⟩
def FinQ (n0:Nat) (Pt:Out->List AO->Prop) (v:SV) (H1:List AO):Prop:=∃ r H',Pt (.ret r) H'∧Cv n0 v H1 r H'
def FinP (n0:Nat) (rs:List RS) (Pt:Out->List AO->Prop) (x:XE) (env:Env) (H1:List AO):Prop :=
 match x with
 | .normal=>(∀ s∈rs,s.side env H1)∧FinQ n0 Pt (resV env H1 rs) H1
 | .ret=>(∀ s∈rs,s.side env H1)∧FinQ n0 Pt (resV env H1 rs) H1
 | .panic x=>∃ y H',Pt (.pan y) H'∧Cv n0 x H1 y H'
 | _=>False
theorem okP_W {f:FuncId} {fn:Func} {c:Code} {rs:List RS} {args:List SV} {H:List AO} {Pt:Out->List AO->Prop} (hf:P.funcs[f]? = some fn) (hb:fn.body=some c)
 (hname : (fn.name == "runtime.NumGoroutine") = false) (hn : args.length ≤ fn.ntmps) (hr : chkRes P fn.results.toList rs = true)
 (hx:closed H->W P fn.ntmps c (argsEnv args) H (FinP H.length rs Pt)):OkP P f args H Pt:=by
 refine⟨fun vs w=>Go.MuLone.run_callFunc_enter hf hname hb vs w,?_⟩
 intro S vs hH hS hvs
 subst hH
 refine callsIn_wide.1 (callsIn_of_wp_marks (F:=Fr none) (n:=0) hf hb trivial ?_)
 have hl:vs.length=args.length:=hvs.1
 have hw:=hx hS.closed ⟨S.w.heap.size,[],none⟩ S ⟨vs.toArray++Array.replicate (fn.ntmps-vs.toArray.size) undef,[]⟩ rfl hS (argsEnv_rel hvs _) (by simp; omega) ⟨Nat.le_refl _,⟨[],rfl,List.nodup_nil,fun D hD=>by simp at hD⟩,fun l h=>by cases h⟩
 refine wq_mono hw ?_
 rintro e a w ⟨x,env,ρ,H1,g1,g2,g3,g4,g5,g6,g7⟩
 obtain⟨ms,m1,m2,m3⟩:=g6.ms
 simp only[List.append_nil]at m1
 have env':∀ w',Turned S.w.heap.size w w'->EnvR ⟨ρ,H1,w'⟩ env a.tmps:=fun w' ht=>⟨fun t=>(g4.get t).extV (turned_extV ht) (.inl rfl)⟩
 have ret:((∀ s∈rs,s.side env H1)∧FinQ S.H.length Pt (resV env H1 rs) H1) →
  LeavesInM (Fr none) 0 P fn a.tmps (fun e w'=>∃ (out:Out) (H':List AO) (v:Value) (ρ':Nat->Option Nat),Pt out H'∧Ext S.H.length S ⟨ρ',H',w'⟩∧Sim ⟨ρ',H',w'⟩ ∧
  match out with
  | .ret r=>e=.returned v∧VR ⟨ρ',H',w'⟩ r v
  | .pan x=>e=.panicked [{ v:=v,recovered:=false }]∧VR ⟨ρ',H',w'⟩ x v) a.defers .returning w:=by
  rintro⟨h1,r,H',hp,h2⟩
  rw[m1]
  refine marks_leave (by simp) ms w m2 m3 fun w' ht => ?_
  obtain⟨v,h3,h4⟩:=run_results (P:=P) (S:=⟨ρ,H1,w'⟩) (turned_sim ht g3) (env' w' ht) hr h1
  obtain⟨ρ',h5,h6,h7⟩:=h2 ⟨ρ,H1,w'⟩ v rfl (turned_sim ht g3) h4
  exact⟨v,h3,.ret r,H',v,ρ',hp,(turned_ext ht g2 (Nat.le_refl _)).trans h5,h6,rfl,h7⟩
 cases x<;>cases e<;>simp only[ER]at g1
 · exact ret g7
 · exact g7.elim
 · exact g7.elim
 · exact ret g7
 · obtain⟨y,H',hp,hcv⟩:=g7
   obtain⟨v,rfl,hv⟩:=g1
   show LeavesInM _ _ _ _ _ _ _ _ _
   rw[m1]
   refine marks_leave (by simp) ms w m2 m3 fun w' ht => ?_
   obtain⟨ρ',h5,h6,h7⟩:=hcv ⟨ρ,H1,w'⟩ v rfl (turned_sim ht g3) (hv.extV (turned_extV ht) (.inl rfl))
   exact⟨.pan y,H',v,ρ',hp,(turned_ext ht g2 (Nat.le_refl _)).trans h5,h6,rfl,h7⟩
theorem okP_of (hD:DOk P D) {f:FuncId} {fn:Func} {c:Code} {i:IC} {rs:List RS} {args:List SV} {H:List AO} {Pt:Out->List AO->Prop} (hf:P.funcs[f]? = some fn) (hb:fn.body=some c)
 (hname : (fn.name == "runtime.NumGoroutine") = false) (hn : args.length ≤ fn.ntmps) (hc : chkC P fn.ntmps D c i = true) (hr : chkRes P fn.results.toList rs = true)
 (hx:closed H->X P fn.ntmps D i (argsEnv args) H (FinP H.length rs Pt)):OkP P f args H Pt :=
 okP_W hf hb hname hn hr fun hcl=>X_sound hD i hc (hx hcl)
theorem OkP.toOk {f:FuncId} {args:List SV} {H:List AO} {out:Out} {H':List AO} (h:OkP P f args H fun o h=>o=out∧h=H'):Ok P f args H out H':=by
 refine⟨h.1,fun S vs h1 h2 h3=>(h.2 S vs h1 h2 h3).mono ?_⟩
 rintro e w ⟨o,h',v,ρ',⟨rfl,rfl⟩,h4⟩
 exact⟨v,ρ',h4⟩
theorem fin_P {n0:Nat} {rs:List RS} {out:Out} {H':List AO} {x:XE} {env:Env} {H1:List AO} (h:Fin n0 rs out H' x env H1):FinP n0 rs (fun o h=>o=out∧h=H') x env H1:=by
 cases x<;>cases out<;>first | exact h.elim | exact⟨h.1,_,_,⟨rfl,rfl⟩,h.2⟩ | exact⟨_,_,⟨rfl,rfl⟩,h⟩
theorem ok_of (hD:DOk P D) {f:FuncId} {fn:Func} {c:Code} {i:IC} {rs:List RS} {args:List SV} {H:List AO} {out:Out} {H':List AO} (hf:P.funcs[f]? = some fn) (hb:fn.body=some c)
 (hname : (fn.name == "runtime.NumGoroutine") = false) (hn : args.length ≤ fn.ntmps) (hc : chkC P fn.ntmps D c i = true) (hr : chkRes P fn.results.toList rs = true)
 (hx:closed H->X P fn.ntmps D i (argsEnv args) H (Fin H.length rs out H')):Ok P f args H out H' :=
 (okP_W hf hb hname hn hr fun hcl=>(X_sound hD i hc (hx hcl)).mono fun x env H1 h=>fin_P h).toOk
end
end Go.Ab
namespace Go.Ab
variable [GlobEnv] [FrEnv] [KnEnv]
theorem opt_map_congr {lo:Option Od} {g g':Od->SV} (h:∀ x∈lo.toList,g x=g' x):lo.map g=lo.map g':=by
 cases lo with
 | none=>rfl
 | some x=>simp[h x (by simp)]
theorem pv_congr (i:I) (g g':Od->SV) (H:List AO) (h:∀ x∈i.ods,g x=g' x):pv i g H=pv i g' H:=by
 cases i with
 | sl sz x lo hi =>
  simp only[I.ods,List.mem_cons,List.mem_append]at h
  have h1:=h x (.inl rfl)
  have h2:=opt_map_congr (lo:=lo) fun y hy=>h y (.inr (.inl hy))
  have h3:=opt_map_congr (lo:=hi) fun y hy=>h y (.inr (.inr hy))
  simp only[pv,h1,h2,h3]
 | sls x lo hi =>
  simp only[I.ods,List.mem_cons,List.mem_append]at h
  have h1:=h x (.inl rfl)
  have h2:=opt_map_congr (lo:=lo) fun y hy=>h y (.inr (.inl hy))
  have h3:=opt_map_congr (lo:=hi) fun y hy=>h y (.inr (.inr hy))
  simp only[pv,h1,h2,h3]
 | mkf f a b =>
  simp only[I.ods,List.mem_append]at h
  have h1:a.map g=a.map g':=List.map_congr_left fun x hx=>h x (.inl hx)
  have h2:b.map g=b.map g':=List.map_congr_left fun x hx=>h x (.inr hx)
  simp only[pv,h1,h2]
 | bld z ps =>
  simp only[I.ods,List.mem_map]at h
  have h1:∀ p∈ps,g p.2.2=g' p.2.2:=fun p hp=>h _ ⟨p,hp,rfl⟩
  have h2:(ps.map fun p=>(p.1,g p.2.2))=ps.map fun p=>(p.1,g' p.2.2):=List.map_congr_left fun p hp=>by rw[h1 p hp]
  have h3:(∀ p∈ps,partOk p.2.1 (g p.2.2)∧p.1+p.2.1≤z.length)=∀ p∈ps,partOk p.2.1 (g' p.2.2)∧p.1+p.2.1≤z.length:=by
   apply propext
   constructor
   · intro hh p hp; rw[←h1 p hp]; exact hh p hp
   · intro hh p hp; rw[h1 p hp]; exact hh p hp
  simp only[pv,h2,h3]
 | _=>simp only[I.ods,List.mem_cons,List.not_mem_nil,or_false,forall_eq_or_imp,forall_eq]at h; simp only[pv,h]
theorem xe_congr {i:E} {g g':Od->SV} {H:List AO} {K K':SV->List AO->Prop} (h:∀ x∈i.ods,g x=g' x) (hk:∀ v H,K v H->K' v H) (hx:xe i g H K):xe i g' H K':=by
 cases i with
 | alc T z=>exact hk _ _ hx
 | box T x =>
  simp only[E.ods,List.mem_cons,List.not_mem_nil,or_false,forall_eq]at h
  simp only[xe,<- h]at *
  exact⟨hx.1,hx.2.1,hk _ _ hx.2.2⟩
 | bsl T sz len z ps =>
  simp only[E.ods,List.mem_map]at h
  have h1:∀ p∈ps,g p.2=g' p.2:=fun p hp=>h _ ⟨p,hp,rfl⟩
  have h2:(ps.map fun p=>(p.1*sz,g p.2))=ps.map fun p=>(p.1*sz,g' p.2):=List.map_congr_left fun p hp=>by rw[h1 p hp]
  simp only[xe,<- h2]at *
  exact⟨fun p hp=>by rw[←h1 p hp]; exact hx.1 p hp,hx.2.1,hk _ _ hx.2.2⟩
 | app T sz by_ s x =>
  simp only[E.ods,List.mem_cons,List.not_mem_nil,or_false,forall_eq_or_imp,forall_eq]at h
  simp only[xe,<- h.1,<- h.2]at *
  obtain⟨a1,a2,a3,a4,a5,a6,a7,a8⟩:=hx
  refine⟨a1,a2,a3,a4,a5,a6,a7,?_⟩
  split
  · rename_i hs
    rw[hs]at a8
    exact⟨a8.1,a8.2.1,hk _ _ a8.2.2⟩
  · rename_i hs
    split at a8
    · rename_i hs'; exact absurd hs' (hs _ _ _ _)
    · exact⟨a8.1,hk _ _ a8.2⟩
 | st n p x =>
  simp only[E.ods,List.mem_cons,List.not_mem_nil,or_false,forall_eq_or_imp,forall_eq]at h
  simp only[xe,<- h.1,<- h.2]at *
  obtain⟨a1,a2,a3,a4,a5,a6⟩:=hx
  refine⟨a1,a2,a3,a4,a5,?_⟩
  split
  · rename_i hs
    rw[hs]at a6
    exact⟨a6.1,hk _ _ a6.2⟩
  · rename_i hs
    split at a6
    · rename_i hs'; exact absurd hs' (hs _ _ _ _ _ _)
    · exact a6
 | stw ws n p x =>
  simp only[E.ods,List.mem_cons,forall_eq_or_imp]at h
  simp only[xe,<- h.1,<- h.2.1]at *
  obtain⟨a1,a2,a3,a4,a5,a6⟩:=hx
  refine⟨a1,a2,a3,a4,a5,?_⟩
  split
  · rename_i hs
    rw[hs]at a6
    exact⟨a6.1,hk _ _ a6.2⟩
  · rename_i hs
    split at a6
    · rename_i hs'; exact absurd hs' (hs _ _ _ _ _ _)
    · exact a6
 | call f as=>exact hx.elim
 | pan x=>exact hx.elim
 | mkm T=>exact hk _ _ hx
 | mup kk m k v =>
  simp only[E.ods,List.mem_cons,List.not_mem_nil,or_false,forall_eq_or_imp,forall_eq]at h
  simp only[xe,<- h.1,<- h.2.1,<- h.2.2]at *
  obtain⟨a1,a2,a3,a4⟩:=hx
  refine⟨a1,a2,a3,?_⟩
  split at a4
  · exact⟨a4.1,a4.2.1,hk _ _ a4.2.2⟩
  · exact a4.elim
 | nil T sz x =>
  simp only[E.ods,List.mem_cons,List.not_mem_nil,or_false,forall_eq]at h
  simp only[xe,<- h]at *
  exact⟨hx.1,hx.2.1,hk _ _ hx.2.2⟩
 | aps T s x =>
  simp only[E.ods,List.mem_cons,List.not_mem_nil,or_false,forall_eq_or_imp,forall_eq]at h
  simp only[xe,<- h.1,<- h.2]at *
  obtain⟨a1,a2,a3,a8⟩:=hx
  refine⟨a1,a2,a3,?_⟩
  split
  · rename_i hs
    rw[hs]at a8
    exact⟨a8.1,a8.2.1,hk _ _ a8.2.2⟩
  · rename_i hs
    split at a8
    · rename_i hs'; exact absurd hs' (hs _ _ _ _)
    · exact⟨a8.1,hk _ _ a8.2⟩
 | sby x =>
  simp only[E.ods,List.mem_cons,List.not_mem_nil,or_false,forall_eq]at h
  simp only[xe,<- h]at *
  exact⟨hx.1,hk _ _ hx.2⟩
theorem ev_congr {e e':Env} {x:Od} (h:∀ t∈x.slots,e'.get t=e.get t):e'.ev x=e.ev x:=by
 cases x with
 | t n=>exact h n (by simp[Od.slots])
 | c s=>rfl
theorem quietV_congr {P:Program} {o:Ins} {env env':Env} {H:List AO} {v:SV} (h:quietV P o env H v) (hk:∀ t∈o.slots,env'.get t=env.get t):quietV P o env' H v:=by
 have hg:∀ s w,o.g=some (s,w)->env'.get s=env.get s:=by
  intro s w hs
  exact hk s (by simp[Ins.slots,hs])
 have hp:∀ i,o.j=.p i->pv i env'.ev H=pv i env.ev H:=by
  intro i hi
  refine pv_congr i _ _ H fun x hx=>ev_congr fun t ht=>hk t ?_
  simp only[Ins.slots,hi,J.slots,List.mem_append,List.mem_flatMap]
  exact .inr ⟨x,hx,ht⟩
 have hq:∀ f args,o.j=.q f args->env'.ev f=env.ev f∧args.map env'.ev=args.map env.ev:=by
  intro f args hq
  constructor
  · refine ev_congr fun t ht=>hk t ?_
    simp only[Ins.slots,hq,J.slots,List.mem_append,List.mem_flatMap]
    exact .inr ⟨f,by simp,ht⟩
  · refine List.map_congr_left fun x hx=>ev_congr fun t ht=>hk t ?_
    simp only[Ins.slots,hq,J.slots,List.mem_append,List.mem_flatMap]
    exact .inr ⟨x,by simp[hx],ht⟩
 unfold quietV at *
 cases hog:o.g with
 | none =>
  rw[hog]at h
  cases hoj:o.j with
  | p i=>rw[hoj]at h; simp only at h ⊢; rw[hp i hoj]; exact h
  | q f args=>rw[hoj]at h; simp only at h ⊢; rw[(hq f args hoj).1,(hq f args hoj).2]; exact h
  | e i=>rw[hoj]at h; exact h.elim
 | some sw =>
  obtain⟨s,want⟩:=sw
  rw[hog]at h
  simp only at h ⊢
  rw[hg s want hog]
  refine⟨h.1,?_⟩
  have h2:=h.2
  cases hoj:o.j with
  | p i=>rw[hoj]at h2; simp only at h2 ⊢; rw[hp i hoj]; exact h2
  | q f args=>rw[hoj]at h2; simp only at h2 ⊢; rw[(hq f args hoj).1,(hq f args hoj).2]; exact h2
  | e i=>rw[hoj]at h2; exact h2.elim
theorem xo_of_quietV {P:Program} {o:Ins} {env:Env} {H:List AO} {v:SV} {K:XE->Env->List AO->Prop} (h:quietV P o env H v) (hk:K .normal (env.put o.d v) H):xo P o env H K:=by
 unfold quietV at h
 unfold xo
 cases hog:o.g with
 | none =>
  rw[hog]at h
  simp only
  unfold xj
  cases hoj:o.j with
  | p i=>rw[hoj]at h; obtain⟨h1,rfl⟩:=h; exact⟨h1,hk⟩
  | q f args=>rw[hoj]at h; exact⟨v,h,hk⟩
  | e i=>rw[hoj]at h; exact h.elim
 | some sw =>
  obtain⟨s,want⟩:=sw
  rw[hog]at h
  simp only at h ⊢
  refine⟨h.1,?_⟩
  have h2:=h.2
  cases hoj:o.j with
  | p i=>rw[hoj]at h2; obtain⟨h3,rfl⟩:=h2; exact⟨h3,hk⟩
  | q f args=>rw[hoj]at h2; obtain⟨r,h3,rfl⟩:=h2; exact⟨r,h3,hk⟩
  | e i=>rw[hoj]at h2; exact h2.elim
def maskOf (acc:List Nat) (o:Oper):Nat:=o.after.toList.foldl (fun s e=>if Region.binds .any e then s ||| (2 ^ e.on ||| acc.getD e.on 0)else s) 0
def masks:List Oper->List Nat->List Nat
 | [],acc=>acc
 | o::r,acc=>masks r (acc++[maskOf acc o])
theorem masks_length:∀ (l:List Oper) (acc:List Nat),(masks l acc).length=acc.length+l.length
 | [],acc=>by simp[masks]
 | o::r,acc=>by simp[masks,masks_length r]; omega
theorem masks_prefix:∀ (l:List Oper) (acc:List Nat) (j:Nat),j<acc.length->(masks l acc)[j]? = acc[j]?
 | [],acc,j,_=>rfl
 | o::r,acc,j,h=>by
  rw[masks,masks_prefix r _ j (by simp; omega),List.getElem?_append_left h]
theorem masks_at:∀ (l:List Oper) (acc:List Nat) (j:Nat) (o:Oper),l[j]? = some o →
 ∃ pre:List Nat,pre.length=acc.length+j∧(masks l acc)[acc.length+j]? = some (maskOf pre o)∧∀ k,k<acc.length+j->pre[k]? = (masks l acc)[k]?
 | [],acc,j,o,h=>by simp at h
 | o'::r,acc,0,o,h=>by
  simp at h; subst h
  refine⟨acc,rfl,?_,fun k hk => ?_⟩
  · rw[masks,masks_prefix r _ _ (by simp)]; simp
  · rw[masks_prefix _ _ _ (by omega)]
 | o'::r,acc,j+1,o,h=>by
  obtain⟨pre,h1,h2,h3⟩:=masks_at r (acc++[maskOf acc o']) j o (by simpa using h)
  refine⟨pre,by rw[h1]; simp; omega,?_,fun k hk => ?_⟩
  · rw[masks]; rw[←h2]; congr 1; simp; omega
  · rw[masks]; exact h3 k (by simp; omega)
theorem foldl_bits (acc:List Nat) (i:Nat):∀ (l:List Edge) (s:Nat),(l.foldl (fun s e=>if Region.binds .any e then s ||| (2 ^ e.on ||| acc.getD e.on 0)else s) s).testBit i=true →
 s.testBit i=true∨∃ e∈l,Region.binds .any e=true∧(i=e.on∨(acc.getD e.on 0).testBit i=true)
 | [],s,h=>.inl h
 | e::r,s,h=>by
  simp only[List.foldl_cons]at h
  rcases foldl_bits acc i r _ h with h1 | ⟨e',h1,h2⟩
  · by_cases hb:Region.binds .any e=true
    · rw[if_pos hb]at h1
      simp only[Nat.testBit_or,Bool.or_eq_true]at h1
      rcases h1 with h1 | h1 | h1
      · exact .inl h1
      · refine .inr ⟨e,by simp,hb,.inl ?_⟩
        rw[Nat.testBit_two_pow]at h1
        simpa using (of_decide_eq_true h1).symm
      · exact .inr ⟨e,by simp,hb,.inr h1⟩
    · rw[if_neg hb]at h1; exact .inl h1
  · exact .inr ⟨e',by simp[h1],h2⟩
def Closed (ops:Array Oper) (L:Nat->Prop):Prop:=∀ (j:Nat) (o:Oper),L j->ops[j]? = some o->∀ e∈o.after.toList,Region.binds .any e=true->L e.on
def Waits (ops:Array Oper) (L:Nat->Prop) (j:Nat):Prop:=∀ (o:Oper),ops[j]? = some o->∀ e∈o.after.toList,Region.binds .any e=true->L e.on
theorem mask_listed {ops:Array Oper} {L:Nat->Prop} (hL:Closed ops L):∀ (j:Nat),Waits ops L j->∀ i b,(masks ops.toList [])[j]? = some b->b.testBit i=true->L i:=by
 intro j
 induction j using Nat.strongRecOn with
 | _ j ih =>
  intro hw i b hb hi
  have hj:j<ops.toList.length:=by have:=getElem?_lt hb; rw[masks_length]at this; simpa using this
  obtain⟨pre,h1,h2,h3⟩:=masks_at ops.toList [] j ops.toList[j] (List.getElem?_eq_getElem hj)
  simp only[List.length_nil,Nat.zero_add]at h1 h2 h3
  rw[hb]at h2
  cases h2
  unfold maskOf at hi
  rcases foldl_bits pre i _ 0 hi with h | ⟨e,he,hbd,h⟩
  · simp at h
  · have ho:ops[j]? = some ops.toList[j]:=by simp[Array.getElem?_eq_getElem (by simpa using hj)]
    have hon:=hw _ ho e he hbd
    rcases h with h | h
    · rw[h]; exact hon
    · have hlt:e.on<pre.length:=by
       rcases Nat.lt_or_ge e.on pre.length with h4 | h4
       · exact h4
       · rw[List.getD_eq_getElem?_getD,List.getElem?_eq_none h4]at h; simp at h
      rw[List.getD_eq_getElem?_getD,List.getElem?_eq_getElem hlt]at h
      have h5:=h3 e.on (by omega)
      rw[List.getElem?_eq_getElem hlt]at h5
      exact ih e.on (by omega) (fun o ho' e' he' hb'=>hL e.on o hon ho' e' he' hb') i _ h5.symm h
def beforeB (B:List Nat) (i j:Nat):Bool:=(B.getD j 0).testBit i
def drawB0 (ops:Array Oper) (ns:List Nat) (l:List Ins):Bool :=
 let B:=masks ops.toList []
 let n:=l.length
 let L:=ns.zip l
 (n==ops.size)&&(ns.length==n)&&((List.range n).all fun i=>ns.contains i) &&
 ((List.range n).all fun i=>((ops.getD i default).after.toList.all fun e => !Region.binds .any e||decide (e.on<i))) &&
 (L.zipIdx.all fun x=>L.zipIdx.all fun y =>
  (match x.1.2.d with
   | none=>true
   | some d=>(x.2==y.2||y.1.2.d != some d)&&(!y.1.2.slots.contains d||(beforeB B x.1.1 y.1.1&&decide (x.2<y.2)))) &&
  (x.1.2.j.quiet||decide (y.2≤x.2)||beforeB B x.1.1 y.1.1)&&(x.2==y.2||x.1.1 != y.1.1))
end Go.Ab
namespace Go.Ab
variable [GlobEnv] [FrEnv] [KnEnv]
def putAll:Env->List Ins->List SV->Env
 | e,o::r,v::vs=>putAll (e.put o.d v) r vs
 | e,_,_=>e
theorem put_get_ne {e:Env} {d:Option Nat} {v:SV} {t:Nat} (h:d≠some t):(e.put d v).get t=e.get t:=by
 cases d with
 | none=>rfl
 | some d=>simp only[Env.put,Env.get]; rw[if_neg (fun e=>h (by rw[e]))]
theorem put_get_eq {e:Env} {v:SV} {t:Nat}:(e.put (some t) v).get t=v:=by simp[Env.put,Env.get]
theorem putAll_not:∀ (os:List Ins) (vs:List SV) (e:Env) (t:Nat),(∀ o∈os,o.d≠some t)->(putAll e os vs).get t=e.get t
 | [],vs,e,t,_=>rfl
 | o::r,[],e,t,_=>rfl
 | o::r,v::vs,e,t,h=>by
  rw[putAll,putAll_not r vs _ t (fun o' ho'=>h o' (by simp[ho'])),put_get_ne (h o (by simp))]
theorem putAll_one:∀ (os:List Ins) (vs:List SV) (e:Env) (t i:Nat) (o:Ins) (v:SV),os[i]? = some o->vs[i]? = some v->o.d=some t->(∀ j p,i<j->os[j]? = some p->p.d≠some t) →
 (putAll e os vs).get t=v
 | [],vs,e,t,i,o,v,h,_,_,_=>by simp at h
 | o'::r,[],e,t,i,o,v,_,h,_,_=>by simp at h
 | o'::r,v'::vs,e,t,0,o,v,h1,h2,h3,h4=>by
  simp at h1 h2; subst h1 h2
  rw[putAll,putAll_not r vs _ t,h3,put_get_eq]
  intro p hp
  obtain⟨j,hj⟩:=List.getElem?_of_mem hp
  exact h4 (j+1) p (by omega) (by simpa using hj)
 | o'::r,v'::vs,e,t,i+1,o,v,h1,h2,h3,h4=>by
  rw[putAll]
  exact putAll_one r vs _ t i o v (by simpa using h1) (by simpa using h2) h3 fun j p hj hp=>h4 (j+1) p (by omega) (by simpa using hp)
theorem EnvR.congr {S:St} {e e':Env} {tmps:Array Value} (h:EnvR S e tmps) (hk:∀ t,e'.get t=.any∨e'.get t=e.get t):EnvR S e' tmps:=by
 refine⟨fun t => ?_⟩
 rcases hk t with h1 | h1<;>rw[h1]
 · exact .any _
 · exact h.get t
theorem filter_lt {α:Type} {p q:α->Bool}:∀ (l:List α),(∀ x∈l,q x=true->p x=true)->∀ i∈l,p i=true->q i=false->(l.filter q).length<(l.filter p).length
 | [],_,i,hi,_,_=>by simp at hi
 | x::r,h,i,hi,hp,hq=>by
  have hle:∀ (l:List α),(∀ x∈l,q x=true->p x=true)->(l.filter q).length≤(l.filter p).length:=by
   intro l
   induction l with
   | nil=>intro _; simp
   | cons y s ih =>
    intro hh
    have:=ih (fun z hz=>hh z (by simp[hz]))
    simp only[List.filter_cons]
    by_cases hqy:q y=true
    · rw[if_pos hqy,if_pos (hh y (by simp) hqy)]; simp; omega
    · rw[if_neg hqy]; split<;>simp<;>omega
  simp only[List.mem_cons]at hi
  simp only[List.filter_cons]
  rcases hi with rfl | hi
  · rw[if_pos hp,if_neg (by simp[hq])]
    have:=hle r (fun z hz=>h z (by simp[hz]))
    simp; omega
  · have ih:=filter_lt r (fun z hz=>h z (by simp[hz])) i hi hp hq
    by_cases hqx:q x=true
    · rw[if_pos hqx,if_pos (h x (by simp) hqx)]; simp; omega
    · rw[if_neg hqx]; split<;>simp<;>omega
abbrev CI:=Nat×Ins
structure DC (ops:Array Oper) (C:List CI):Prop where
 cov:∀ i,i<ops.size->∃ x∈C,x.1=i
 edge:∀ i o,ops[i]? = some o->∀ e∈o.after.toList,Region.binds .any e=true->e.on<i
 uniq:∀ x∈C,∀ y∈C,x.1≠y.1->∀ d,x.2.d=some d->y.2.d≠some d
 dep:∀ x∈C,∀ y∈C,∀ d,x.2.d=some d->d∈y.2.slots->beforeB (masks ops.toList []) x.1 y.1=true
 self:∀ x∈C,∀ d,x.2.d=some d->d∉x.2.slots
theorem zip_fst {ns:List Nat} {l:List Ins} (h:ns.length=l.length) {i:Nat} (hi:i∈ns):∃ x∈ns.zip l,x.1=i:=by
 obtain⟨k,hk⟩:=List.getElem?_of_mem hi
 have hlt:k<l.length:=by rw[←h]; exact getElem?_lt hk
 exact⟨(i,l[k]),List.mem_of_getElem? (i:=k) (by rw[List.getElem?_zip_eq_some]; exact⟨hk,List.getElem?_eq_getElem hlt⟩),rfl⟩
theorem dc_of {ops:Array Oper} {ns:List Nat} {l:List Ins} (h:drawB0 ops ns l=true):DC ops (ns.zip l) ∧
 (ns.zip l).Pairwise fun x y=>(∀ d,y.2.d=some d->d∉x.2.slots)∧(x.2.j.quiet=false->beforeB (masks ops.toList []) x.1 y.1=true)∧x.1≠y.1:=by
 unfold drawB0 at h
 simp only[Bool.and_eq_true,beq_iff_eq,List.all_eq_true,List.mem_range,Bool.or_eq_true,Bool.not_eq_true',decide_eq_true_eq,List.contains_eq_mem]at h
 obtain⟨⟨⟨⟨h1,h2⟩,h3⟩,h4⟩,h5⟩:=h
 generalize hC:ns.zip l=C at h5 ⊢
 have hp:∀ (a b:Nat) (x y:CI),C[a]? = some x->C[b]? = some y →
  (∀ d,x.2.d=some d->(a=b∨y.2.d≠some d)∧(d∈y.2.slots->beforeB (masks ops.toList []) x.1 y.1=true∧a<b)) ∧
  ((x.2.j.quiet=true∨b≤a)∨beforeB (masks ops.toList []) x.1 y.1=true)∧(a=b∨x.1≠y.1):=by
  intro a b x y hx hy
  have hxm:(x,a)∈C.zipIdx:=List.mem_of_getElem? (i:=a) (by rw[List.getElem?_zipIdx]; simp[hx])
  have hym:(y,b)∈C.zipIdx:=List.mem_of_getElem? (i:=b) (by rw[List.getElem?_zipIdx]; simp[hy])
  have h6:=h5 (x,a) hxm (y,b) hym
  simp only[bne_iff_ne,ne_eq]at h6
  obtain⟨⟨h6,h7⟩,h8⟩:=h6
  refine⟨fun d hd => ?_,h7,h8⟩
  rw[hd]at h6
  simp only[Bool.and_eq_true,Bool.or_eq_true,beq_iff_eq,bne_iff_ne,ne_eq,Bool.not_eq_true',decide_eq_true_eq,List.contains_eq_mem,decide_eq_false_iff_not]at h6
  refine⟨h6.1,fun hm => ?_⟩
  rcases h6.2 with h9 | h9
  · exact absurd hm h9
  · exact h9
 refine⟨⟨fun i hi => ?_,?_,?_,?_,?_⟩,?_⟩
 · rw[←hC]; exact zip_fst h2 (h3 i (by omega))
 · intro i o ho e he hb
   have hi:i<ops.size:=(Array.getElem?_eq_some_iff.1 ho).1
   rcases h4 i (by omega) e (by rw[Array.getD_eq_getD_getElem?,ho]; simpa using he)with h6 | h6
   · rw[hb]at h6; cases h6
   · exact h6
 · intro x hx y hy hne d hd hd'
   obtain⟨a,ha⟩:=List.getElem?_of_mem hx
   obtain⟨b,hb⟩:=List.getElem?_of_mem hy
   rcases((hp a b x y ha hb).1 d hd).1 with h6 | h6
   · subst h6; rw[ha]at hb; cases hb; exact hne rfl
   · exact h6 hd'
 · intro x hx y hy d hd hs
   obtain⟨a,ha⟩:=List.getElem?_of_mem hx
   obtain⟨b,hb⟩:=List.getElem?_of_mem hy
   exact(((hp a b x y ha hb).1 d hd).2 hs).1
 · intro x hx d hd hs
   obtain⟨a,ha⟩:=List.getElem?_of_mem hx
   have:=(((hp a a x x ha ha).1 d hd).2 hs).2; omega
 · rw[List.pairwise_iff_getElem]
   intro a b ha hb hab
   have h6:=hp a b C[a] C[b] (List.getElem?_eq_getElem ha) (List.getElem?_eq_getElem hb)
   have h7:=hp b a C[b] C[a] (List.getElem?_eq_getElem hb) (List.getElem?_eq_getElem ha)
   refine⟨fun d hd hs => ?_,fun hq => ?_,?_⟩
   · have:=((h7.1 d hd).2 hs).2; omega
   · rcases h6.2.1 with (h8 | h8) | h8
     · rw[hq]at h8; cases h8
     · omega
     · exact h8
   · rcases h6.2.2 with h8 | h8
     · omega
     · exact h8
abbrev QI:=Nat×Ins×SV
def unl (listed:Array Bool) (q:QI):Bool := !listed.getD q.1 false
def maskE (Qs:List QI) (e:Env):Env:=(Qs.filterMap fun q=>q.2.1.d.map fun d=>(d,SV.any))++e
theorem mask_any {e:Env} {t:Nat}:∀ {Qs:List QI},(∃ q∈Qs,q.2.1.d=some t)->(maskE Qs e).get t=.any
 | [],h=>by obtain⟨q,hq,_⟩:=h; simp at hq
 | q::r,h=>by
  simp only[maskE,List.filterMap_cons]
  cases hd:q.2.1.d with
  | none =>
   simp only[Option.map_none]
   refine mask_any ?_
   obtain⟨q',hq',ht⟩:=h
   simp only[List.mem_cons]at hq'
   rcases hq' with rfl | hq'
   · rw[hd]at ht; cases ht
   · exact⟨q',hq',ht⟩
  | some d =>
   simp only[Option.map_some,List.cons_append,Env.get]
   by_cases h2:d=t
   · rw[if_pos h2]
   · rw[if_neg h2]
     refine mask_any ?_
     obtain⟨q',hq',ht⟩:=h
     simp only[List.mem_cons]at hq'
     rcases hq' with rfl | hq'
     · rw[hd]at ht; cases ht; exact absurd rfl h2
     · exact⟨q',hq',ht⟩
theorem mask_get {e:Env} {t:Nat}:∀ {Qs:List QI},(∀ q∈Qs,q.2.1.d≠some t)->(maskE Qs e).get t=e.get t
 | [],_=>rfl
 | q::r,h=>by
  simp only[maskE,List.filterMap_cons]
  cases hd:q.2.1.d with
  | none=>simp only[Option.map_none]; exact mask_get fun q' hq'=>h q' (by simp[hq'])
  | some d =>
   simp only[Option.map_some,List.cons_append,Env.get]
   rw[if_neg (fun e=>h q (by simp) (by rw[hd,e]))]
   exact mask_get fun q' hq'=>h q' (by simp[hq'])
section
variable {P:Program}
theorem xo_congr {o:Ins} {env env':Env} {H:List AO} {K:XE->Env->List AO->Prop} (hq:o.j.quiet=false) (hs:∀ t∈o.slots,env'.get t=env.get t) (h:xo P o env H K) :
 xo P o env' H fun x e2 H'=>match x with
  | .normal=>∃ v,e2=env'.put o.d v∧K .normal (env.put o.d v) H'
  | x=>K x env H':=by
 cases hoj:o.j with
 | p i=>rw[hoj]at hq; simp[J.quiet]at hq
 | q f args=>rw[hoj]at hq; simp[J.quiet]at hq
 | e i =>
  have hods:∀ x∈i.ods,env.ev x=env'.ev x:=by
   intro x hx
   refine(ev_congr fun t ht=>hs t ?_).symm
   simp only[Ins.slots,hoj,J.slots,List.mem_append,List.mem_flatMap]
   exact .inr ⟨x,hx,ht⟩
  have hj:xj P o env H K->xj P o env' H fun x e2 H'=>match x with
   | .normal=>∃ v,e2=env'.put o.d v∧K .normal (env.put o.d v) H'
   | x=>K x env H':=by
   intro hx
   by_cases hc:i.isCall=true
   · cases i<;>simp[E.isCall]at hc
     case call f args =>
      simp only[E.ods,List.mem_cons,forall_eq_or_imp]at hods
      have h1:args.map env.ev=args.map env'.ev:=List.map_congr_left hods.2
      unfold xj at hx ⊢
      rw[hoj]at hx ⊢
      simp only at hx ⊢
      obtain⟨Pt,h2,h3⟩:=hx
      refine⟨Pt,by rw[←hods.1,<- h1]; exact h2,fun out H' hp => ?_⟩
      have h3:=h3 out H' hp
      cases out with
      | ret r=>exact⟨r,rfl,h3⟩
      | pan x=>exact h3
     case pan x =>
      have h1:=hods x (by simp[E.ods])
      unfold xj at hx ⊢
      rw[hoj]at hx ⊢
      simp only at hx ⊢
      rw[←h1]
      exact hx
   · have hc':i.isCall=false:=by simpa using hc
     unfold xj at hx ⊢
     rw[hoj]at hx ⊢
     have h1:xe i env.ev H fun v H'=>K .normal (env.put o.d v) H':=by
      cases i<;>first | exact hx | simp[E.isCall]at hc'
     have h2:=xe_congr (K':=fun v H'=>∃ v',env'.put o.d v=env'.put o.d v'∧K .normal (env.put o.d v') H') hods (fun v H' hk=>⟨v,rfl,hk⟩) h1
     cases i<;>first | exact h2 | simp[E.isCall]at hc'
  unfold xo at h ⊢
  cases hog:o.g with
  | none=>rw[hog]at h; exact hj h
  | some sw =>
   obtain⟨s,want⟩:=sw
   rw[hog]at h
   have hgs:env'.get s=env.get s:=hs s (by simp[Ins.slots,hog])
   rw[hoj]at h ⊢
   simp only at h ⊢
   rw[hgs]
   exact⟨h.1,fun hon=>hj (h.2.1 hon),fun hoff=>⟨_,rfl,h.2.2 hoff⟩⟩
theorem pv_H {i:I} (h:J.dep (.p i)=false) (g:Od->SV) (H H':List AO):pv i g H=pv i g H':=by
 cases i<;>first | rfl | (simp[J.dep]at h)
theorem quietV_H {o:Ins} {env:Env} {H H':List AO} {v:SV} (hd:o.j.dep=false) (h:quietV P o env H v):quietV P o env H' v:=by
 unfold quietV at *
 cases hoj:o.j with
 | p i =>
  rw[hoj]at h hd
  simp only[pv_H hd env.ev H H']at h
  exact h
 | q f args=>rw[hoj]at hd; simp[J.dep]at hd
 | e i=>rw[hoj]at h; exact h
theorem xd_split {H:List AO} {K:XE->Env->List AO->Prop}:∀ (rest:List CI) (pend:List (Ins×SV)) (env:Env),xd P pend (rest.map (·.2)) env H K →
 ∃ (F:List QI) (rest':List CI) (pend':List (Ins×SV)),rest=(F.map fun q=>(q.1,q.2.1))++rest'∧(rest'=[]∨∃ c r,rest'=c::r∧c.2.j.quiet=false) ∧
  (∀ q∈F,q.2.1.j.quiet=true)∧(∀ p∈pend,p∈pend')∧(∀ q∈F,(q.2.1,q.2.2)∈pend')∧(∀ p∈pend',p∈pend∨∃ q∈F,p.1=q.2.1) ∧
  (∀ (k:Nat) (q:QI),F[k]? = some q->quietV P q.2.1 (putAll env ((F.take k).map (·.2.1)) ((F.take k).map (·.2.2))) H q.2.2) ∧
  xd P pend' (rest'.map (·.2)) (putAll env (F.map (·.2.1)) (F.map (·.2.2))) H K
 | [],pend,env,h=>⟨[],[],pend,rfl,.inl rfl,fun q hq=>by simp at hq,fun p hp=>hp,fun q hq=>by simp at hq,fun p hp=>.inl hp,fun k q hk=>by simp at hk,h⟩
 | c::r,pend,env,h=>by
  by_cases hq:c.2.j.quiet=true
  · have key:∃ v,quietV P c.2 env H v∧xd P ((c.2,v)::pend) (r.map (·.2)) (env.put c.2.d v) H K:=by
     simp only[List.map_cons,xd]at h
     rw[if_pos hq]at h
     unfold quietV
     cases hog:c.2.g with
     | none =>
      rw[hog]at h
      cases hoj:c.2.j with
      | p i =>
       rw[hoj]at h
       simp only at h ⊢
       exact⟨_,⟨h.1,rfl⟩,h.2⟩
      | q f args =>
       rw[hoj]at h
       simp only at h ⊢
       obtain⟨v,h1,h2⟩:=h
       exact⟨v,h1,h2⟩
      | e i=>rw[hoj]at hq; simp[J.quiet]at hq
     | some sw =>
      obtain⟨s,want⟩:=sw
      rw[hog]at h
      cases hoj:c.2.j with
      | p i =>
       rw[hoj]at h
       simp only at h ⊢
       exact⟨_,⟨h.1,h.2.1,rfl⟩,h.2.2⟩
      | q f args =>
       rw[hoj]at h
       simp only at h ⊢
       obtain⟨h0,v,h1,h2⟩:=h
       exact⟨_,⟨h0,v,h1,rfl⟩,h2⟩
      | e i=>rw[hoj]at hq; simp[J.quiet]at hq
    obtain⟨v,h1,h4⟩:=key
    obtain⟨F,rest',pend',g1,g2,g3,g4,g5,g8,g6,g7⟩:=xd_split r _ _ h4
    refine⟨(c.1,c.2,v)::F,rest',pend',by simp[g1],g2,?_,fun p hp=>g4 p (by simp[hp]),?_,?_,?_,by simpa[putAll]using g7⟩
    · intro q hqm
      simp only[List.mem_cons]at hqm
      rcases hqm with rfl | hqm
      · exact hq
      · exact g3 q hqm
    · intro q hqm
      simp only[List.mem_cons]at hqm
      rcases hqm with rfl | hqm
      · exact g4 _ (by simp)
      · exact g5 q hqm
    · intro p hp
      rcases g8 p hp with h | ⟨q,hqm,h⟩
      · simp only[List.mem_cons]at h
        rcases h with rfl | h
        · exact .inr ⟨(c.1,c.2,v),by simp,rfl⟩
        · exact .inl h
      · exact .inr ⟨q,by simp[hqm],h⟩
    · intro k q hk
      cases k with
      | zero=>simp at hk; subst hk; simpa[putAll]using h1
      | succ k=>simpa[putAll]using g6 k q (by simpa using hk)
  · exact⟨[],c::r,pend,rfl,.inr ⟨c,r,rfl,by simpa using hq⟩,fun q hq=>by simp at hq,fun p hp=>hp,fun q hq=>by simp at hq,fun p hp=>.inl hp,fun k q hk=>by simp at hk,h⟩
theorem set_listed {listed:Array Bool} {i k:Nat} (hi:i<listed.size):(listed.setIfInBounds i true).getD k false=true↔(k=i∨listed.getD k false=true):=by
 by_cases h:i=k
 · subst h; simp[hi]
 · rw[getD_set_ne false h]
   constructor
   · exact fun h'=>.inr h'
   · rintro(h' | h')
     · exact absurd h'.symm h
     · exact h'
theorem getD_size {listed:Array Bool} {i:Nat} (h:i<listed.size):listed.getD i true=listed.getD i false:=by
 simp[Array.getD_eq_getD_getElem?,Array.getElem?_eq_getElem h]
theorem step_wpOp {ops:Array Oper} {Q:Exit->Act->World->Prop} {i:Nat} {o:Oper} {a:Act} {w:World} {next:Act->World->Prop} (ho:ops[i]? = some o) (h:StepOf P ops o a w next Q):wpOp P ops Q i next a w:=by
 unfold wpOp
 rw[ho]
 simp only
 unfold StepOf at h
 split
 · rename_i hw; rw[if_pos hw]at h; exact h
 · rename_i hw; rw[if_neg hw]at h; exact h
theorem some_ready {ops:Array Oper} (hedge:∀ i o,ops[i]? = some o->∀ e∈o.after.toList,Region.binds .any e=true->e.on<i) {listed:Array Bool} (hsz:listed.size=ops.size) (hr:Region.ready .any ops listed=[]) :
 ∀ i,i<ops.size->listed.getD i false=true:=by
 intro i
 induction i using Nat.strongRecOn with
 | _ i ih =>
  intro hi
  cases h:listed.getD i false with
  | true=>rfl
  | false =>
   have:i∈Region.ready .any ops listed:=by
    rw[mem_ready]
    refine⟨by rw[getD_size (by omega)]; exact h,ops[i],Array.getElem?_eq_getElem hi,fun e he hb => ?_⟩
    have:=hedge i ops[i] (Array.getElem?_eq_getElem hi) e (by simpa using he) hb
    exact ih e.on this (by omega)
   rw[hr]at this; simp at this
theorem before_listed {ops:Array Oper} {listed:Array Bool} {j:Nat} {o:Oper} (ho:ops[j]? = some o) (hcl:Closed ops fun t=>listed.getD t false=true)
 (hdeps:∀ e∈o.after,Region.binds .any e=true->listed.getD e.on false=true) {i:Nat} (hb:beforeB (masks ops.toList []) i j=true):listed.getD i false=true:=by
 have hlt:j<ops.size:=(Array.getElem?_eq_some_iff.1 ho).1
 have h4:j<(masks ops.toList []).length:=by rw[masks_length]; simpa using hlt
 unfold beforeB at hb
 rw[List.getD_eq_getElem?_getD,List.getElem?_eq_getElem h4]at hb
 exact mask_listed hcl j (fun o' ho' e hem hb=>by rw[ho]at ho'; cases ho'; exact hdeps e (by simpa using hem) hb) i _ (List.getElem?_eq_getElem h4) hb
theorem before_closed {ops:Array Oper} {listed:Array Bool} {i j:Nat} {o:Oper} (ho:ops[j]? = some o) (hcl:Closed ops fun t=>listed.getD t false=true) (hj:listed.getD j false=true)
 (hb:beforeB (masks ops.toList []) i j=true):listed.getD i false=true :=
 before_listed ho hcl (fun e he hb=>hcl j o hj ho e (by simpa using he) hb) hb
theorem needed_listed {N:Nat} {ops:Array Oper} {C:List CI} (hd:DC ops C) (hchk:∀ x∈C,∃ o,ops[x.1]? = some o∧chkIns P N ops o x.2=true) {listed:Array Bool} (hcl:Closed ops fun t=>listed.getD t false=true) :
 ∀ (pend:List (Ins×SV)) (ts:List Nat),(∀ p∈pend,∃ i,(i,p.1)∈C)->(∀ t∈ts,∀ y∈C,y.2.d=some t->listed.getD y.1 false=true) →
  ∀ s∈needed ts pend,∀ y∈C,y.2.d=some s->listed.getD y.1 false=true
 | [],ts,_,h=>h
 | (p,v)::r,ts,hp,h=>by
  unfold needed
  by_cases hm:hasD ts p.d=true
  · rw[if_pos hm]
    refine needed_listed hd hchk hcl r _ (fun q hq=>hp q (by simp[hq])) ?_
    intro t ht y hy hyd
    rcases List.mem_append.1 ht with ht | ht
    · obtain⟨i,hi⟩:=hp (p,v) (by simp)
      obtain⟨o,ho,_⟩:=hchk _ hi
      cases hpd:p.d with
      | none=>rw[hpd]at hm; simp[hasD]at hm
      | some d =>
       rw[hpd]at hm
       simp only[hasD]at hm
       have h1:=h d (by simpa using hm) (i,p) hi hpd
       exact before_closed ho hcl h1 (hd.dep y hy (i,p) hi t hyd ht)
    · exact h t ht y hy hyd
  · rw[if_neg hm]
    exact needed_listed hd hchk hcl r ts (fun q hq=>hp q (by simp[hq])) h
theorem draw_main {N:Nat} {ops:Array Oper} {C:List CI} {S:St} {db:DB} {K:XE->Env->List AO->Prop} (hd:DC ops C) (hchk:∀ x∈C,∃ o,ops[x.1]? = some o∧chkIns P N ops o x.2=true) :
 ∀ (fuel:Nat) (listed:Array Bool) (S':St) (a:Act) (Qs:List QI) (Ef:Env) (pend:List (Ins×SV)) (rest:List CI),
 rest.length+(Qs.filter (unl listed)).length≤fuel->listed.size=ops.size->(Closed ops fun t=>listed.getD t false=true) →
 (∀ q∈Qs,(q.1,q.2.1)∈C)->(∀ r∈rest,r∈C) →
 (∀ i,i<ops.size->listed.getD i false=false->(∃ q∈Qs,q.1=i)∨∃ r∈rest,r.1=i) →
 (∀ r∈rest,listed.getD r.1 false=false) →
 (rest.Pairwise fun x y=>(∀ d,y.2.d=some d->d∉x.2.slots)∧(x.2.j.quiet=false->beforeB (masks ops.toList []) x.1 y.1=true)∧x.1≠y.1) →
 (rest=[]∨∃ c r,rest=c::r∧c.2.j.quiet=false) →
 (∀ q∈Qs,∀ r∈rest,(∀ d,r.2.d=some d->d∉q.2.1.slots)∧q.1≠r.1) →
 (∀ q∈Qs,∀ q'∈Qs,q.1=q'.1->q=q')->(∀ q∈Qs,q.2.1.j.quiet=true) →
 (∀ q∈Qs,∀ d,q.2.1.d=some d->Ef.get d=q.2.2) →
 (∀ q∈Qs,listed.getD q.1 false=false->quietV P q.2.1 Ef S'.H q.2.2) →
 (∀ q∈Qs,(q.2.1,q.2.2)∈pend)->(∀ p∈pend,∃ i,(i,p.1)∈C) →
 Ext S.H.length S S'->Sim S'->EnvR S' (maskE (Qs.filter (unl listed)) Ef) a.tmps->a.tmps.size=N->db.Ok S'.w a.defers →
 xd P pend (rest.map (·.2)) Ef S'.H K->wpAny P .any ops (Post S N db K) fuel listed a S'.w:=by
 intro fuel
 induction fuel with
 | zero =>
  intro listed S' a Qs Ef pend rest hf hsz hcl hQC hrC hcov hrl hpw hhead hqr hqn hqq hval hqv hpend hpC he hS henv hN hdf hx
  obtain rfl:rest=[]:=List.eq_nil_of_length_eq_zero (by omega)
  have hun:Qs.filter (unl listed)=[]:=List.eq_nil_of_length_eq_zero (by omega)
  have hall:∀ i,i<ops.size->listed.getD i false=true:=by
   intro i hi
   cases h:listed.getD i false with
   | true=>rfl
   | false =>
    rcases hcov i hi h with ⟨q,hq,rfl⟩ | ⟨r,hr,_⟩
    · have:q∈Qs.filter (unl listed):=by rw[List.mem_filter]; exact⟨hq,by simp[unl]; simpa using h⟩
      rw[hun]at this; simp at this
    · simp at hr
  rw[hun]at henv
  refine⟨?_,⟨.normal,Ef,S'.ρ,S'.H,trivial,he,hS,henv,hN,hdf,hx⟩⟩
  rw[List.eq_nil_iff_forall_not_mem]
  intro i hi
  rw[mem_ready]at hi
  obtain⟨h1,o,ho,_⟩:=hi
  have hlt:i<ops.size:=(Array.getElem?_eq_some_iff.1 ho).1
  rw[getD_size (by omega),hall i hlt]at h1; cases h1
 | succ fuel ih =>
  intro listed S' a Qs Ef pend rest hf hsz hcl hQC hrC hcov hrl hpw hhead hqr hqn hqq hval hqv hpend hpC he hS henv hN hdf hx
  refine⟨fun hr => ?_,fun j hj => ?_⟩
  · have hall:=some_ready hd.edge hsz hr
    have hrest:rest=[]:=by
     cases rest with
     | nil=>rfl
     | cons c r =>
      obtain⟨o,ho,_⟩:=hchk c (hrC c (by simp))
      have h1:=hrl c (by simp)
      rw[hall c.1 (Array.getElem?_eq_some_iff.1 ho).1]at h1; cases h1
    subst hrest
    have hun:Qs.filter (unl listed)=[]:=by
     rw[List.filter_eq_nil_iff]
     intro q hq hu
     obtain⟨o,ho,_⟩:=hchk _ (hQC q hq)
     have:=hall q.1 (Array.getElem?_eq_some_iff.1 ho).1
     have e:unl listed q=false:=by unfold unl; rw[this]; rfl
     rw[e]at hu; cases hu
    rw[hun]at henv
    exact⟨.normal,Ef,S'.ρ,S'.H,trivial,he,hS,henv,hN,hdf,hx⟩
  · rw[mem_ready]at hj
    obtain⟨g1,o,ho,hdeps⟩:=hj
    have hlt:j<ops.size:=(Array.getElem?_eq_some_iff.1 ho).1
    rw[getD_size (by omega)]at g1
    have before:=fun(i:Nat)=>before_listed (i:=i) ho hcl hdeps
    have hjs:j<listed.size:=by omega
    have hset:∀ k,(listed.setIfInBounds j true).getD k false=false->listed.getD k false=false:=by
     intro k hk
     cases h:listed.getD k false with
     | false=>rfl
     | true=>rw[(set_listed (k:=k) hjs).2 (.inr h)]at hk; cases hk
    have hclosed':Closed ops fun t=>(listed.setIfInBounds j true).getD t false=true:=by
     intro i p hi hp e hem hb
     rw[set_listed hjs]at hi ⊢
     rcases hi with rfl | hi
     · rw[ho]at hp; cases hp; exact .inr (hdeps e (by simpa using hem) hb)
     · exact .inr (hcl i p hi hp e hem hb)
    rcases hcov j hlt g1 with ⟨q,hq,rfl⟩ | ⟨c,hc,rfl⟩
    · -- a quiet operation
      obtain⟨o',ho',hci⟩:=hchk _ (hQC q hq)
      rw[ho]at ho'; cases ho'
      have hm:∀ t∈q.2.1.slots,(maskE (Qs.filter (unl listed)) Ef).get t=Ef.get t:=by
       intro t ht
       refine mask_get fun q' hq' hd' => ?_
       rw[List.mem_filter]at hq'
       have h1:=before q'.1 (hd.dep _ (hQC q' hq'.1) _ (hQC q hq) t hd' ht)
       have h2:=hq'.2
       simp only[unl,Bool.not_eq_true']at h2
       rw[h1]at h2; cases h2
      have hq1:=quietV_congr (hqv q hq g1) hm
      have hxo:xo P q.2.1 (maskE (Qs.filter (unl listed)) Ef) S'.H (fun x env' H'=>x=.normal∧env'=(maskE (Qs.filter (unl listed)) Ef).put q.2.1.d q.2.2∧H'=S'.H):=xo_of_quietV hq1 ⟨rfl,rfl,rfl⟩
      refine step_wpOp ho (xo_sound hS henv hN hdf hci hxo ?_ ?_)
      · rintro a' w' ⟨x,env',ρ',H',hx',hext,hsim,henv',hN',hdf',hxn,rfl,rfl⟩
        refine ih _ ⟨ρ',S'.H,w'⟩ a' Qs Ef pend rest ?_ (by simpa using hsz) hclosed' hQC hrC (fun i hi h=>hcov i hi (hset i h)) ?_ hpw hhead hqr hqn hqq hval
         (fun q' hq' h=>hqv q' hq' (hset _ h)) hpend hpC (he.trans (hext.mono (he.len (Nat.le_refl _)))) hsim ?_ hN' hdf' hx
        · have:=filter_lt (p:=unl listed) (q:=unl (listed.setIfInBounds q.1 true)) Qs (by
           intro q' _ h
           simp only[unl,Bool.not_eq_true']at h ⊢
           exact hset _ h) q hq (by simp only[unl,g1]; rfl) (by
           simp only[unl,Bool.not_eq_false']
           exact(set_listed hjs).2 (.inl rfl))
          omega
        · intro r hr
          have h1:=hrl r hr
          cases h:(listed.setIfInBounds q.1 true).getD r.1 false with
          | false=>rfl
          | true =>
           rw[set_listed hjs]at h
           rcases h with h | h
           · exact absurd h.symm (hqr q hq r hr).2
           · rw[h1]at h; cases h
        · refine henv'.congr fun t => ?_
          by_cases hun:∃ q'∈Qs.filter (unl (listed.setIfInBounds q.1 true)),q'.2.1.d=some t
          · exact .inl (mask_any hun)
          · right
            rw[mask_get (fun q' hq' h=>hun ⟨q',hq',h⟩)]
            by_cases h2:q.2.1.d=some t
            · rw[h2,put_get_eq]; exact hval q hq t h2
            · rw[put_get_ne h2,mask_get]
              intro q' hq' h3
              apply hun
              refine⟨q',?_,h3⟩
              rw[List.mem_filter]at hq' ⊢
              refine⟨hq'.1,?_⟩
              have h4:=hq'.2
              simp only[unl,Bool.not_eq_true']at h4 ⊢
              cases h5:(listed.setIfInBounds q.1 true).getD q'.1 false with
              | false=>rfl
              | true =>
               rw[set_listed hjs]at h5
               rcases h5 with h5 | h5
               · have:=hqn q' hq'.1 q hq h5
                 subst this; exact absurd h3 h2
               · rw[h4]at h5; cases h5
      · rintro ch a' w' ⟨x,env',ρ',H',hx',hext,hsim,henv',hN',hdf',hxn,_⟩
        subst hxn
        simp only[ER]at hx'
    · -- the next write
      have hhd:∃ r,rest=c::r:=by
       rcases hhead with rfl | ⟨c',r,rfl,hq'⟩
       · simp at hc
       · simp only[List.mem_cons]at hc
         rcases hc with rfl | hc
         · exact⟨r,rfl⟩
         · rw[List.pairwise_cons]at hpw
           have h1:=before c'.1 ((hpw.1 c hc).2.1 hq')
           rw[hrl c' (by simp)]at h1; cases h1
      obtain⟨r,rfl⟩:=hhd
      have hcq:c.2.j.quiet=false:=by
       rcases hhead with h | ⟨c',r',h,hq'⟩
       · cases h
       · cases h; exact hq'
      obtain⟨o',ho',hci⟩:=hchk c (hrC c (by simp))
      rw[ho]at ho'; cases ho'
      rw[List.pairwise_cons]at hpw
      have hm:∀ t∈c.2.slots,(maskE (Qs.filter (unl listed)) Ef).get t=Ef.get t:=by
       intro t ht
       refine mask_get fun q' hq' hd' => ?_
       rw[List.mem_filter]at hq'
       have h1:=before q'.1 (hd.dep _ (hQC q' hq'.1) _ (hrC c (by simp)) t hd' ht)
       have h2:=hq'.2
       simp only[unl,Bool.not_eq_true']at h2
       rw[h1]at h2; cases h2
      simp only[List.map_cons,xd]at hx
      rw[if_neg (by simp[hcq])]at hx
      have hxo:=xo_congr hcq hm hx
      refine step_wpOp ho (xo_sound hS henv hN hdf hci hxo ?_ ?_)
      · rintro a' w' ⟨x,env',ρ',H',hx',hext,hsim,henv',hN',hdf',hk⟩
        cases x<;>simp only[ER]at hx'
        obtain⟨v,rfl,hpv,hxd⟩:=hk
        obtain⟨F,rest',pend',f1,f2,f3,f4,f5,f8,f6,f7⟩:=xd_split r pend _ hxd
        subst f1
        have hFC:∀ q∈F,(q.1,q.2.1)∈C:=fun q hq=>hrC _ (by simp; exact .inr (.inl ⟨q.2.2,hq⟩))
        have hr'C:∀ y∈rest',y∈C:=fun y hy=>hrC _ (by simp[hy])
        have hFr:∀ q∈F,(q.1,q.2.1)∈(F.map fun q=>(q.1,q.2.1))++rest':=fun q hq=>List.mem_append_left _ (List.mem_map.2 ⟨q,hq,rfl⟩)
        rw[List.pairwise_append]at hpw
        obtain⟨hpc,hpF,hpr,hpFr⟩:=hpw
        have hFidx:∀ (i k:Nat) (x y:QI),F[i]? = some x->F[k]? = some y->i<k->(∀ d,y.2.1.d=some d->d∉x.2.1.slots)∧x.1≠y.1:=by
         intro i k x y hx hy hik
         rw[List.pairwise_map,List.pairwise_iff_getElem]at hpF
         have h1:=getElem?_lt hx
         have h2:=getElem?_lt hy
         have h3:=hpF i k h1 h2 hik
         rw[List.getElem?_eq_getElem h1]at hx; cases hx
         rw[List.getElem?_eq_getElem h2]at hy; cases hy
         exact⟨h3.1,h3.2.2⟩
        generalize hE1:Ef.put c.2.d v=E1 at *
        have getF:∀ (t:Nat),(∀ q∈F,q.2.1.d≠some t)->(putAll E1 (F.map (·.2.1)) (F.map (·.2.2))).get t=E1.get t:=by
         intro t h
         refine putAll_not _ _ _ _ fun p hp => ?_
         obtain⟨q,hq,rfl⟩:=List.mem_map.1 hp
         exact h q hq
        have getF1:∀ q∈F,∀ d,q.2.1.d=some d->(putAll E1 (F.map (·.2.1)) (F.map (·.2.2))).get d=q.2.2:=by
         intro q hq d hqd
         obtain⟨k,hk⟩:=List.getElem?_of_mem hq
         refine putAll_one _ _ _ d k q.2.1 q.2.2 (by simp[hk]) (by simp[hk]) hqd ?_
         intro i p hik hp hpd
         simp only[List.getElem?_map,Option.map_eq_some_iff]at hp
         obtain⟨y,hy,rfl⟩:=hp
         exact hd.uniq _ (hFC q hq) _ (hFC y (List.mem_of_getElem? hy)) (hFidx k i q y hk hy hik).2 d hqd hpd
        have hcF:∀ q∈F,c.1≠q.1:=fun q hq=>(hpc _ (hFr q hq)).2.2
        have hcr':∀ y∈rest',c.1≠y.1:=fun y hy=>(hpc _ (List.mem_append_right _ hy)).2.2
        have hlF:∀ q∈F,(listed.setIfInBounds c.1 true).getD q.1 false=false:=by
         intro q hq
         cases h:(listed.setIfInBounds c.1 true).getD q.1 false with
         | false=>rfl
         | true =>
          rw[set_listed hjs]at h
          rcases h with h | h
          · exact absurd h.symm (hcF q hq)
          · have:=hrl (q.1,q.2.1) (List.mem_cons_of_mem _ (hFr q hq)); rw[this]at h; cases h
        have hQF:∀ q∈Qs,∀ q'∈F,(∀ d,q'.2.1.d=some d->d∉q.2.1.slots)∧q.1≠q'.1:=fun q hq q' hq'=>hqr q hq (q'.1,q'.2.1) (List.mem_cons_of_mem _ (hFr q' hq'))
        have hQc:∀ q∈Qs,(∀ d,c.2.d=some d->d∉q.2.1.slots)∧q.1≠c.1:=fun q hq=>hqr q hq c (by simp)
        refine ih _ ⟨ρ',H',w'⟩ a' (Qs++F) (putAll E1 (F.map (·.2.1)) (F.map (·.2.2))) pend' rest' ?_ (by simpa using hsz) hclosed' ?_ hr'C ?_ ?_ hpr f2 ?_ ?_ ?_ ?_ ?_ ?_ ?_
         (he.trans (hext.mono (he.len (Nat.le_refl _)))) hsim ?_ hN' hdf' f7
        · -- fuel
          have h1:((Qs++F).filter (unl (listed.setIfInBounds c.1 true))).length≤(Qs.filter (unl listed)).length+F.length:=by
           rw[List.filter_append,List.length_append]
           have h2:=List.length_filter_le (unl (listed.setIfInBounds c.1 true)) F
           have h3:(Qs.filter (unl (listed.setIfInBounds c.1 true))).length≤(Qs.filter (unl listed)).length:=by
            have:Qs.filter (unl (listed.setIfInBounds c.1 true))=(Qs.filter (unl listed)).filter (unl (listed.setIfInBounds c.1 true)):=by
             rw[List.filter_filter]
             refine List.filter_congr fun q _ => ?_
             simp only[unl]
             cases h:(listed.setIfInBounds c.1 true).getD q.1 false with
             | true=>rfl
             | false=>rw[hset _ h]; rfl
            rw[this]; exact List.length_filter_le _ _
           omega
          simp only[List.length_cons,List.length_append,List.length_map]at hf
          omega
        · intro q hq
          rcases List.mem_append.1 hq with hq | hq
          · exact hQC q hq
          · exact hFC q hq
        · intro i hi h
          have h0:=hset i h
          rcases hcov i hi h0 with ⟨q,hq,rfl⟩ | ⟨y,hy,rfl⟩
          · exact .inl ⟨q,List.mem_append_left _ hq,rfl⟩
          · simp only[List.mem_cons,List.mem_append,List.mem_map]at hy
            rcases hy with rfl | ⟨q,hq,rfl⟩ | hy
            · rw[(set_listed (k:=y.1) hjs).2 (.inl rfl)]at h; cases h
            · exact .inl ⟨q,List.mem_append_right _ hq,rfl⟩
            · exact .inr ⟨y,hy,rfl⟩
        · intro y hy
          cases h:(listed.setIfInBounds c.1 true).getD y.1 false with
          | false=>rfl
          | true =>
           rw[set_listed hjs]at h
           rcases h with h | h
           · exact absurd h.symm (hcr' y hy)
           · have:=hrl y (List.mem_cons_of_mem _ (List.mem_append_right _ hy)); rw[this]at h; cases h
        · intro q hq y hy
          rcases List.mem_append.1 hq with hq | hq
          · exact hqr q hq y (List.mem_cons_of_mem _ (List.mem_append_right _ hy))
          · have:=hpFr (q.1,q.2.1) (List.mem_map.2 ⟨q,hq,rfl⟩) y hy
            exact⟨this.1,this.2.2⟩
        · intro q hq q' hq' heq
          rcases List.mem_append.1 hq with hq | hq<;>rcases List.mem_append.1 hq' with hq' | hq'
          · exact hqn q hq q' hq' heq
          · exact absurd heq (hQF q hq q' hq').2
          · exact absurd heq.symm (hQF q' hq' q hq).2
          · obtain⟨i,hi⟩:=List.getElem?_of_mem hq
            obtain⟨k,hk⟩:=List.getElem?_of_mem hq'
            rcases Nat.lt_trichotomy i k with h | h | h
            · exact absurd heq (hFidx i k q q' hi hk h).2
            · subst h; rw[hi]at hk; cases hk; rfl
            · exact absurd heq.symm (hFidx k i q' q hk hi h).2
        · intro q hq
          rcases List.mem_append.1 hq with hq | hq
          · exact hqq q hq
          · exact f3 q hq
        · intro q hq d hqd
          rcases List.mem_append.1 hq with hq | hq
          · rw[getF d (fun q' hq' h=>hd.uniq _ (hQC q hq) _ (hFC q' hq') (hQF q hq q' hq').2 d hqd h),<- hE1,put_get_ne (fun h=>hd.uniq _ (hQC q hq) _ (hrC c (by simp)) (hQc q hq).2 d hqd h)]
            exact hval q hq d hqd
          · exact getF1 q hq d hqd
        · intro q hq hun
          rcases List.mem_append.1 hq with hq | hq
          · have hcg:∀ t∈q.2.1.slots,(putAll E1 (F.map (·.2.1)) (F.map (·.2.2))).get t=E1.get t:=fun t ht=>getF t fun q' hq' h=>(hQF q hq q' hq').1 t h ht
            refine quietV_congr ?_ hcg
            by_cases hdep:q.2.1.j.dep=true
            · refine hpv _ (hpend q hq) ?_
              simp only[loose,hdep,Bool.true_and,Bool.not_eq_true']
              unfold hasD
              cases hqd:q.2.1.d with
              | none=>rfl
              | some d =>
               simp only
               cases hcn:(needed c.2.slots pend).contains d with
               | false=>rfl
               | true =>
                have h1:=needed_listed hd hchk hcl pend c.2.slots hpC (fun t ht y hy hyd=>before y.1 (hd.dep y hy c (hrC c (by simp)) t hyd ht)) d (by simpa using hcn) _ (hQC q hq) hqd
                rw[hset _ hun]at h1; cases h1
            · refine quietV_H (by simpa using hdep) (quietV_congr (hqv q hq (hset _ hun)) fun t ht => ?_)
              rw[←hE1,put_get_ne (fun h=>(hQc q hq).1 t h ht)]
          · obtain⟨k,hk⟩:=List.getElem?_of_mem hq
            refine quietV_congr (f6 k q hk) fun t ht => ?_
            by_cases hw:∃ y∈F,y.2.1.d=some t
            · obtain⟨y,hy,hyd⟩:=hw
              obtain⟨i,hi⟩:=List.getElem?_of_mem hy
              have hik:i<k:=by
               rcases Nat.lt_trichotomy i k with h | h | h
               · exact h
               · subst h; rw[hi]at hk; cases hk
                 exact absurd ht (hd.self _ (hFC q hq) t hyd)
               · exact absurd ht ((hFidx k i q y hk hi h).1 t hyd)
              rw[getF1 y hy t hyd]
              refine(putAll_one _ _ _ t i y.2.1 y.2.2 ?_ ?_ hyd ?_).symm
              · simp only[List.getElem?_map,List.getElem?_take,if_pos hik,hi,Option.map_some]
              · simp only[List.getElem?_map,List.getElem?_take,if_pos hik,hi,Option.map_some]
              · intro m p him hp hpd
                simp only[List.getElem?_map,List.getElem?_take,Option.map_eq_some_iff]at hp
                obtain⟨z,hz,rfl⟩:=hp
                split at hz
                · exact hd.uniq _ (hFC y hy) _ (hFC z (List.mem_of_getElem? hz)) (hFidx i m y z hi hz him).2 t hyd hpd
                · cases hz
            · have hw':∀ y∈F,y.2.1.d≠some t:=fun y hy h=>hw ⟨y,hy,h⟩
              rw[getF t hw']
              refine(putAll_not _ _ _ _ fun p hp => ?_).symm
              obtain⟨z,hz,rfl⟩:=List.mem_map.1 hp
              exact hw' z (List.mem_of_mem_take hz)
        · intro q hq
          rcases List.mem_append.1 hq with hq | hq
          · exact f4 _ (hpend q hq)
          · exact f5 q hq
        · intro p hp
          rcases f8 p hp with h | ⟨q,hq,h⟩
          · exact hpC p h
          · exact⟨q.1,by rw[h]; exact hFC q hq⟩
        · refine henv'.congr fun t => ?_
          by_cases hun:∃ q'∈(Qs++F).filter (unl (listed.setIfInBounds c.1 true)),q'.2.1.d=some t
          · exact .inl (mask_any hun)
          · right
            rw[mask_get (fun q' hq' h=>hun ⟨q',hq',h⟩)]
            have hnF:∀ q∈F,q.2.1.d≠some t:=by
             intro q hq h
             exact hun ⟨q,by rw[List.mem_filter]; exact⟨List.mem_append_right _ hq,by simp only[unl,hlF q hq]; rfl⟩,h⟩
            rw[getF t hnF,<- hE1]
            by_cases h2:c.2.d=some t
            · rw[h2,put_get_eq,put_get_eq]
            · rw[put_get_ne h2,put_get_ne h2,mask_get]
              intro q' hq' h3
              apply hun
              refine⟨q',?_,h3⟩
              rw[List.mem_filter]at hq' ⊢
              refine⟨List.mem_append_left _ hq'.1,?_⟩
              have h4:=hq'.2
              simp only[unl,Bool.not_eq_true']at h4 ⊢
              cases h5:(listed.setIfInBounds c.1 true).getD q'.1 false with
              | false=>rfl
              | true =>
               rw[set_listed hjs]at h5
               rcases h5 with h5 | h5
               · exact absurd h5 (hQc q' hq'.1).2
               · rw[h4]at h5; cases h5
      · rintro ch a' w' ⟨x,env',ρ',H',hx',hext,hsim,henv',hN',hdf',hk⟩
        cases x<;>simp only[ER]at hx'
        exact⟨.panic _,[],ρ',H',hx',he.trans (hext.mono (he.len (Nat.le_refl _))),hsim,⟨fun t=>.any _⟩,hN',hdf',hk⟩
theorem draw_ok0 {P:Program}:DOk0 P drawB0:=by
 intro N ops ns l env H K hc hdr hx db S a hH hS he hN hdf
 subst hH
 obtain⟨hd,hpw⟩:=dc_of hdr
 have hlen:ns.length=l.length∧l.length=ops.size:=by
  unfold drawB0 at hdr
  simp only[Bool.and_eq_true,beq_iff_eq]at hdr
  exact⟨hdr.1.1.1.2,hdr.1.1.1.1⟩
 have hsnd:(ns.zip l).map (·.2)=l:=by rw[List.map_snd_zip]; omega
 have hchk:∀ x∈ns.zip l,∃ o,ops[x.1]? = some o∧chkIns P N ops o x.2=true:=by
  intro x hx
  unfold chkP at hc
  rw[List.all_eq_true]at hc
  have:=hc x hx
  split at this
  · rename_i o ho; exact⟨o,ho,this⟩
  · cases this
 have hnone:∀ i,(Array.replicate ops.size false).getD i false=false:=by
  intro i
  rw[Array.getD_eq_getD_getElem?,Array.getElem?_replicate]
  split<;>rfl
 have hE:=ext_same (S:=S) (w':=S.w.drew) rfl rfl rfl rfl
 have hS':=sim_same hS (w':=S.w.drew) rfl rfl rfl rfl
 obtain⟨F,rest',pend',f1,f2,f3,f4,f5,f8,f6,f7⟩:=xd_split (ns.zip l) [] env (by rw[hsnd]; exact hx)
 have hFC:∀ q∈F,(q.1,q.2.1)∈ns.zip l:=fun q hq=>by rw[f1]; exact List.mem_append_left _ (List.mem_map.2 ⟨q,hq,rfl⟩)
 have hr'C:∀ y∈rest',y∈ns.zip l:=fun y hy=>by rw[f1]; exact List.mem_append_right _ hy
 rw[f1,List.pairwise_append]at hpw
 obtain⟨hpF,hpr,hpFr⟩:=hpw
 have hFidx:∀ (i k:Nat) (x y:QI),F[i]? = some x->F[k]? = some y->i<k->(∀ d,y.2.1.d=some d->d∉x.2.1.slots)∧x.1≠y.1:=by
  intro i k x y hx hy hik
  rw[List.pairwise_map,List.pairwise_iff_getElem]at hpF
  have h1:=getElem?_lt hx
  have h2:=getElem?_lt hy
  have h3:=hpF i k h1 h2 hik
  rw[List.getElem?_eq_getElem h1]at hx; cases hx
  rw[List.getElem?_eq_getElem h2]at hy; cases hy
  exact⟨h3.1,h3.2.2⟩
 have getF:∀ (t:Nat),(∀ q∈F,q.2.1.d≠some t)->(putAll env (F.map (·.2.1)) (F.map (·.2.2))).get t=env.get t:=by
  intro t h
  refine putAll_not _ _ _ _ fun p hp => ?_
  obtain⟨q,hq,rfl⟩:=List.mem_map.1 hp
  exact h q hq
 have getF1:∀ q∈F,∀ d,q.2.1.d=some d->(putAll env (F.map (·.2.1)) (F.map (·.2.2))).get d=q.2.2:=by
  intro q hq d hqd
  obtain⟨k,hk⟩:=List.getElem?_of_mem hq
  refine putAll_one _ _ _ d k q.2.1 q.2.2 (by simp[hk]) (by simp[hk]) hqd ?_
  intro i p hik hp hpd
  simp only[List.getElem?_map,Option.map_eq_some_iff]at hp
  obtain⟨y,hy,rfl⟩:=hp
  exact hd.uniq _ (hFC q hq) _ (hFC y (List.mem_of_getElem? hy)) (hFidx k i q y hk hy hik).2 d hqd hpd
 refine draw_main hd hchk ops.size (Array.replicate ops.size false) ⟨S.ρ,S.H,S.w.drew⟩ a F (putAll env (F.map (·.2.1)) (F.map (·.2.2))) pend' rest' ?_ (by simp) ?_ hFC hr'C ?_ (fun r _=>hnone _) hpr f2 ?_ ?_ f3 getF1 ?_ f5 (fun p hp=>by
  rcases f8 p hp with h | ⟨q,hq,h⟩
  · simp at h
  · exact⟨q.1,by rw[h]; exact hFC q hq⟩)
  hE hS' ?_ hN hdf.drew f7
 · have h1:=List.length_filter_le (unl (Array.replicate ops.size false)) F
   have h2:(ns.zip l).length=ops.size:=by rw[List.length_zip]; omega
   rw[f1]at h2
   simp at h2; omega
 · intro j o hj
   simp only[hnone]at hj; cases hj
 · intro i hi _
   obtain⟨x,hx,rfl⟩:=hd.cov i hi
   rw[f1,List.mem_append,List.mem_map]at hx
   rcases hx with ⟨q,hq,rfl⟩ | hx
   · exact .inl ⟨q,hq,rfl⟩
   · exact .inr ⟨x,hx,rfl⟩
 · intro q hq y hy
   have:=hpFr (q.1,q.2.1) (List.mem_map.2 ⟨q,hq,rfl⟩) y hy
   exact⟨this.1,this.2.2⟩
 · intro q hq q' hq' heq
   obtain⟨i,hi⟩:=List.getElem?_of_mem hq
   obtain⟨k,hk⟩:=List.getElem?_of_mem hq'
   rcases Nat.lt_trichotomy i k with h | h | h
   · exact absurd heq (hFidx i k q q' hi hk h).2
   · subst h; rw[hi]at hk; cases hk; rfl
   · exact absurd heq.symm (hFidx k i q' q hk hi h).2
 · intro q hq _
   obtain⟨k,hk⟩:=List.getElem?_of_mem hq
   refine quietV_congr (f6 k q hk) fun t ht => ?_
   by_cases hw:∃ y∈F,y.2.1.d=some t
   · obtain⟨y,hy,hyd⟩:=hw
     obtain⟨i,hi⟩:=List.getElem?_of_mem hy
     have hik:i<k:=by
      rcases Nat.lt_trichotomy i k with h | h | h
      · exact h
      · subst h; rw[hi]at hk; cases hk
        exact absurd ht (hd.self _ (hFC q hq) t hyd)
      · exact absurd ht ((hFidx k i q y hk hi h).1 t hyd)
     rw[getF1 y hy t hyd]
     refine(putAll_one _ _ _ t i y.2.1 y.2.2 ?_ ?_ hyd ?_).symm
     · simp only[List.getElem?_map,List.getElem?_take,if_pos hik,hi,Option.map_some]
     · simp only[List.getElem?_map,List.getElem?_take,if_pos hik,hi,Option.map_some]
     · intro m p him hp hpd
       simp only[List.getElem?_map,List.getElem?_take,Option.map_eq_some_iff]at hp
       obtain⟨z,hz,rfl⟩:=hp
       split at hz
       · exact hd.uniq _ (hFC y hy) _ (hFC z (List.mem_of_getElem? hz)) (hFidx i m y z hi hz him).2 t hyd hpd
       · cases hz
   · have hw':∀ y∈F,y.2.1.d≠some t:=fun y hy h=>hw ⟨y,hy,h⟩
     rw[getF t hw']
     refine(putAll_not _ _ _ _ fun p hp => ?_).symm
     obtain⟨z,hz,rfl⟩:=List.mem_map.1 hp
     exact hw' z (List.mem_of_mem_take hz)
 · refine(he.ext hE).congr fun t => ?_
   by_cases hw:∃ y∈F,y.2.1.d=some t
   · left
     obtain⟨y,hy,hyd⟩:=hw
     exact mask_any ⟨y,by rw[List.mem_filter]; exact⟨hy,by simp only[unl,hnone]; rfl⟩,hyd⟩
   · right
     have hw':∀ y∈F,y.2.1.d≠some t:=fun y hy h=>hw ⟨y,hy,h⟩
     rw[mask_get (fun q hq=>hw' q (List.mem_filter.1 hq).1),getF t hw']
end
end Go.Ab
namespace Go.Ab
variable [GlobEnv] [FrEnv] [KnEnv]
theorem slots_rs (n:Nat) (o:Ins):(o.rs n).slots=o.slots:=by
 obtain⟨d,g,j⟩:=o
 cases j with
 | e i=>cases i<;>rfl
 | _=>rfl
theorem quiet_rs (n:Nat) (o:Ins):(o.rs n).j.quiet=o.j.quiet:=by
 obtain⟨d,g,j⟩:=o
 cases j<;>rfl
theorem d_rs (n:Nat) (o:Ins):(o.rs n).d=o.d:=rfl
def drawG (free:Ins->Bool) (ops:Array Oper) (ns:List Nat) (l:List Ins):Bool :=
 let B:=masks ops.toList []
 let n:=l.length
 let L:=ns.zip l
 (n==ops.size)&&(ns.length==n)&&((List.range n).all fun i=>ns.contains i) &&
 ((List.range n).all fun i=>((ops.getD i default).after.toList.all fun e => !Region.binds .any e||decide (e.on<i))) &&
 (L.zipIdx.all fun x=>L.zipIdx.all fun y =>
  (match x.1.2.d with
   | none=>true
   | some d=>(x.2==y.2||y.1.2.d != some d)&&(!y.1.2.slots.contains d||(beforeB B x.1.1 y.1.1&&decide (x.2<y.2)))) &&
  (free x.1.2||decide (y.2≤x.2)||beforeB B x.1.1 y.1.1)&&(x.2==y.2||x.1.1 != y.1.1))
theorem drawG_rs {free:Ins->Bool} (n:Nat) (hf:∀ o,free (Ins.rs n o)=free o) {ops:Array Oper} {ns:List Nat} {l:List Ins} (h:drawG free ops ns l=true):drawG free ops ns (l.map (Ins.rs n))=true:=by
 have e:drawG free ops ns (l.map (Ins.rs n))=drawG free ops ns l:=by
  unfold drawG
  simp only[List.length_map,List.zip_map_right,List.zipIdx_map,List.all_map,Function.comp_def,Prod.map_fst,Prod.map_snd,id_eq,d_rs,slots_rs,hf]
 rw[e]; exact h
theorem draw0_G (ops:Array Oper) (ns:List Nat) (l:List Ins):drawB0 ops ns l=drawG (fun o=>o.j.quiet) ops ns l:=rfl
def drawB (ops:Array Oper) (ns:List Nat) (l:List Ins):Bool:=drawB0 ops ns l
theorem draw_ok {P:Program} (hm:P.follows .mixedOrders=true):DOk P drawB where
 rs:=by
  intro n ops m l h
  unfold drawB at h ⊢
  rw[draw0_G]at h ⊢; exact drawG_rs n (fun o=>quiet_rs n o) h
 mixed:=hm
 ok:=fun N ops m l env H K hc h hx=>draw_ok0 N ops m l env H K hc h hx
end Go.Ab
namespace Go.Ab
variable [GlobEnv] [FrEnv] [KnEnv]
def chkF (P:Program) (D:Array Oper->List Nat->List Ins->Bool) (fn:Func) (i:IC) (rs:List RS):Bool :=
 (match fn.body with | some c => chkC P fn.ntmps D c i | none => false) && !(fn.name == "runtime.NumGoroutine") && chkRes P fn.results.toList rs && decide (fn.params.size + fn.nfree ≤ fn.ntmps)
theorem ok_fn {P:Program} (hm:P.follows .mixedOrders=true) {f:FuncId} {fn:Func} {i:IC} {rs:List RS} (hf:P.funcs[f]? = some fn) (hc:chkF P drawB fn i rs=true)
 {args:List SV} {H:List AO} {out:Out} {H':List AO} (hn:args.length=fn.params.size+fn.nfree)
 (hx:closed H->X P fn.ntmps drawB i (argsEnv args) H (Fin H.length rs out H')):Ok P f args H out H':=by
 unfold chkF at hc
 rw[Bool.and_eq_true,Bool.and_eq_true,Bool.and_eq_true]at hc
 obtain⟨⟨⟨h1,h2⟩,h3⟩,h4⟩:=hc
 split at h1
 · rename_i c hb
   exact ok_of (draw_ok hm) hf hb (by simpa using h2) (by rw[hn]; simpa using h4) h1 h3 hx
 · cases h1
theorem okP_fn {P:Program} (hm:P.follows .mixedOrders=true) {f:FuncId} {fn:Func} {i:IC} {rs:List RS} (hf:P.funcs[f]? = some fn) (hc:chkF P drawB fn i rs=true)
 {args:List SV} {H:List AO} {Pt:Out->List AO->Prop} (hn:args.length=fn.params.size+fn.nfree)
 (hx:closed H->X P fn.ntmps drawB i (argsEnv args) H (FinP H.length rs Pt)):OkP P f args H Pt:=by
 unfold chkF at hc
 rw[Bool.and_eq_true,Bool.and_eq_true,Bool.and_eq_true]at hc
 obtain⟨⟨⟨h1,h2⟩,h3⟩,h4⟩:=hc
 split at h1
 · rename_i c hb
   exact okP_of (draw_ok hm) hf hb (by simpa using h2) (by rw[hn]; simpa using h4) h1 h3 hx
 · cases h1
theorem li_round {P:Program} (hm:P.follows .mixedOrders=true) {N:Nat} {i:IC} {env:Env} {H:List AO} {K:XE->Env->List AO->Prop}
 (h:X P N drawB i env H fun x env H=>match x with | .normal=>LI P N drawB i env H K | x=>K x env H):LI P N drawB i env H K:=LI.round (draw_ok hm) h
theorem isI_i64 (n:Int):(i64 n).isI .i64=true:=rfl
theorem int_i64 (n:Int):(i64 n).int=n:=rfl
theorem isN_i64 (n:Int):(i64 n).isN=true:=rfl
theorem isB_bl (b:Bool):(bl b).isB=true:=rfl
theorem bool_bl (b:Bool):(bl b).bool=b:=rfl
theorem ug_i64 (n:Int):(i64 n).ug=i64 n:=rfl
theorem vd_i64 (n:Int):(i64 n).vd=true:=rfl
theorem ug_bl (b:Bool):(bl b).ug=bl b:=rfl
theorem vd_bl (b:Bool):(bl b).vd=true:=rfl
theorem wrap_id {n:Int} (h1 : -9223372036854775808≤n) (h2:n≤9223372036854775807):IntKind.i64.wrap n=n:=by rw[IntKind.wrap_i64]; omega
theorem val_i64 (n:Int):SV.val (.int .i64 n)=i64 n:=rfl
theorem objCells_new (H L:List AO) (k ver:Nat):objCells (H++L) (H.length+k) ver=objCells L k ver:=by
 unfold objCells; rw[List.getElem?_append_right (by omega)]; simp
theorem objCells_new0 (H L:List AO) (ver:Nat):objCells (H++L) H.length ver=objCells L 0 ver:=objCells_new H L 0 ver
theorem setObj_new (H L:List AO) (k:Nat) (f:AO->AO):setObj (H++L) (H.length+k) f=H++setObj L k f:=by
 unfold setObj
 rw[List.getElem?_append_right (by omega)]
 have:H.length+k-H.length=k:=by omega
 rw[this]
 cases L[k]? with
 | none=>rfl
 | some o=>simp
theorem setObj_new0 (H L:List AO) (f:AO->AO):setObj (H++L) H.length f=H++setObj L 0 f:=setObj_new H L 0 f
end Go.Ab
namespace Go.Ab
variable [GlobEnv] [FrEnv] [KnEnv]
theorem cv_keep {n0:Nat} {H1 H0 L:List AO} {r:SV} (d:Nat) (ks:List Nat) (h:H1=H0++L) (hn:n0≤H0.length) (hcl:closed H0) (hk:keptOk H0.length ks L d ks) :
 Cv n0 r H1 (r.fz H0.length ks L d) (H0++keptO H0.length ks L d):=by
 intro S v hS hsim hv
 subst h
 exact⟨_,(ext_kept hS hk).mono hn,sim_kept hsim hS hcl hk,fz_rel hsim hS hk d (Nat.le_refl _) r v hv⟩
theorem cv_none {n0:Nat} {H1 H0 L:List AO} {r:SV} (d:Nat) (h:H1=H0++L) (hn:n0≤H0.length) (hcl:closed H0):Cv n0 r H1 (r.fz H0.length [] L d) H0:=by
 have:=cv_keep (r:=r) d [] h hn hcl trivial
 simpa[keptO]using this
end Go.Ab
namespace Go.Ab
variable [GlobEnv] [FrEnv] [KnEnv]
section
variable {P:Program} {N:Nat}
def Env.puts (e:Env):List Nat->List SV->Env
 | p::ps,v::vs=>Env.puts ((p,v)::e) ps vs
 | _,_=>e
theorem Env.puts_rel {S:St}:∀ (ps:List Nat) (l:List SV) (vs:List Value) (e:Env) (tmps:Array Value),EnvR S e tmps->VRs S l vs->(∀ p∈ps,p<tmps.size) →
 EnvR S (e.puts ps l) ((ps.zip vs).foldl (fun t (x:Nat×Value)=>t.setIfInBounds x.1 x.2) tmps)
 | [],_,_,e,tmps,h,_,_=>by simpa[Env.puts]using h
 | p::ps,[],vs,e,tmps,h,hv,_=>by
  have:vs=[]:=List.eq_nil_of_length_eq_zero (by simpa using hv.1)
  subst this; simpa[Env.puts]using h
 | p::ps,v::l,[],e,tmps,h,hv,_=>by have:=hv.1; simp at this
 | p::ps,v::l,u::vs,e,tmps,h,hv,hp=>by
  simp only[Env.puts,List.zip_cons_cons,List.foldl_cons]
  have h1:VR S v u:=hv.2 0 v u rfl rfl
  have h2:VRs S l vs:=⟨by simpa using hv.1,fun j s w h3 h4=>hv.2 (j+1) s w (by simpa using h3) (by simpa using h4)⟩
  refine Env.puts_rel ps l vs _ _ ?_ h2 (fun q hq=>by simpa using hp q (by simp[hq]))
  have h3:=EnvR.put (a:=⟨tmps,[]⟩) (d:=some p) (v:=u) (s:=v) h (fun t ht=>by cases ht; exact hp p (by simp)) h1
  simpa[Env.put,Act.put]using h3
theorem Env.of_vals {S:St} {e:Env} {N:Nat} {tmps:Array Value} (h:VRs S (e.vals N) tmps.toList) (he:(e.all fun p=>decide (p.1<N))=true):EnvR S e tmps:=by
 refine⟨fun t => ?_⟩
 have hN:tmps.size=N:=by have:=h.1; simpa[Env.vals]using this
 by_cases ht:t<N
 · have h1:(e.vals N)[t]? = some (e.get t):=by simp[Env.vals,List.getElem?_range ht]
   obtain⟨u,h2,h3⟩:=h.get h1
   rw[Array.getD_eq_getD_getElem?]
   have:tmps[t]? = some u:=by simpa using h2
   rw[this]; exact h3
 · have:e.get t=.any:=by
    clear h
    induction e with
    | nil=>rfl
    | cons p r ih =>
     simp only[List.all_cons,Bool.and_eq_true,decide_eq_true_eq]at he
     simp only[Env.get]
     rw[if_neg (by omega)]
     exact ih he.2
   rw[this]; exact .any _
def FinR (P:Program) (N kk:Nat) (ps:List Nat) (ia ib:IC) (i n0:Nat) (Pt:Out->List AO->Prop) (x:XE) (_:Env) (H:List AO):Prop :=
 ∃ cs,H[i]? = some (lpo P N drawB kk ps ia ib cs .busy)∧∃ (st:LSt) (b:Bool) (H':List AO),
  (match x with
   | .normal=>st=.ready∧b=true
   | .exit id=>st=.exit id∧b=false
   | .goto l=>st=.goto l∧b=false
   | .ret=>st=.ret∧b=false
   | .panic _=>False)∧Pt (.ret (bl b)) H'∧Cv n0 (bl b) (H.set i (lpo P N drawB kk ps ia ib cs st)) (bl b) H'
theorem lp_eq {l l':Nat} {S S':St} {i:Nat} {o o':AO} (he:Ext S.H.length S S') (ho:S.H[i]? = some o) (ho':S'.H[i]? = some o') (hv:o.ver=o'.ver) (h:S.ρ i=some l) (h':S'.ρ i=some l'):l'=l:=by
 obtain⟨o1,g1,g2,g3⟩:=he.obj i o (getElem?_lt ho) ho
 rw[ho']at g1; cases g1
 have:=g3 hv
 rw[h,h']at this
 exact Option.some.inj this
theorem yl_ok0 (hm:P.follows .mixedOrders=true) {i kk:Nat} {ps:List Nat} {ia ib:IC} {env:Env} {args:List SV} {H:List AO} {Pt:Out->List AO->Prop}
 {cs0:List SV} (ho:H[i]? = some (lpo P N drawB kk ps ia ib cs0 .ready)) (he:∀ (S:St) (tmps:Array Value),VRs S cs0 tmps.toList->EnvR S env tmps) (hp:(ps.all fun p=>decide (p<N))=true) (hl:args.length=ps.length)
 (hx:closed H->X P N drawB ia (env.puts ps args) H fun x env1 H1=>x=.normal∧∃ cs,H1[i]? = some (lpo P N drawB kk ps ia ib cs .ready)∧X P N drawB ib env1 (H1.set i (lpo P N drawB kk ps ia ib cs .busy)) (FinR P N kk ps ia ib i H.length Pt)) :
 YlP P i args H Pt:=by
 refine⟨⟨_,ho,rfl⟩,?_⟩
 intro S vs l hH hS hvs hρ
 subst hH
 obtain⟨l',r,h1,h2,⟨k1,k2,k3,k4⟩,h4,h5⟩:=hS.loop ho
 rw[hρ]at h1; cases h1
 have hps:r.params.size=ps.length:=by rw[←k1]; simp
 have hlen:vs.length=args.length:=hvs.1
 refine⟨r,h2,by omega,?_⟩
 have htm:(r.params.zip vs.toArray).foldl (fun tmps (x:Nat×Value)=>tmps.setIfInBounds x.1 x.2) r.tmps=(ps.zip vs).foldl (fun t (x:Nat×Value)=>t.setIfInBounds x.1 x.2) r.tmps:=by
  rw[←Array.foldl_toList,Array.toList_zip,k1]
 have hall:∀ p∈ps,p<r.tmps.size:=fun p hpp=>by rw[List.all_eq_true]at hp; rw[k2]; simpa using hp p hpp
 have henv:=Env.puts_rel ps args vs env r.tmps (he S r.tmps h5) hvs hall
 have hsz:∀ (l:List (Nat×Value)) (t:Array Value),(l.foldl (fun t (x:Nat×Value)=>t.setIfInBounds x.1 x.2) t).size=t.size:=by
  intro l
  induction l with
  | nil=>intro t; rfl
  | cons x l ih=>intro t; simp only[List.foldl_cons]; rw[ih]; simp
 have hdb:(⟨S.w.heap.size,[],some l⟩:DB).Ok S.w []:=⟨Nat.le_refl _,⟨[],rfl,List.nodup_nil,fun D hD=>by simp at hD⟩,fun l' hl'=>by cases hl'; exact⟨r,h2⟩⟩
 have hW:=X_sound (draw_ok hm) ia k3 (hx hS.closed) ⟨S.w.heap.size,[],some l⟩ S ⟨(ps.zip vs).foldl (fun t (x:Nat×Value)=>t.setIfInBounds x.1 x.2) r.tmps,[]⟩ rfl hS henv (by simp only; rw[hsz]; exact k2) hdb
 refine roundIn_of_wpIn (F:=Fr none) trivial ?_
 rw[show(fun tmps (x:Nat×Value)=>tmps.setIfInBounds x.1 x.2)=(fun(t:Array Value) (x:Nat×Value)=>t.setIfInBounds x.1 x.2)from rfl]at htm
 rw[show((r.params.zip vs.toArray).foldl (fun tmps (t,a)=>tmps.setIfInBounds t a) r.tmps)=(ps.zip vs).foldl (fun t (x:Nat×Value)=>t.setIfInBounds x.1 x.2) r.tmps from htm]
 refine wpIn_mono hW ?_
 rintro e a1 w1 ⟨x1,env1,ρ1,H1,g1,g2,g3,g4,g5,g6,rfl,cs,g7,g8⟩
 cases e<;>simp only[ER]at g1
 obtain⟨l1,r1,j1,j2,j3,j4,j5⟩:=g3.loop g7
 have hl1:l1=l:=lp_eq g2 ho g7 rfl hρ j1
 subst hl1
 have hbr:=run_beginRound (P:=P) j2 j4.1
 obtain⟨e2,s2⟩:=turn_lp g3 (o':=lpo P N drawB kk ps ia ib cs .busy) (r':={ r1 with state:=.busy }) g7 rfl (by simp[lpo]) j1 j2 rfl (Nat.le_refl _) (.inr ⟨kk,_,.busy,cs,rfl,j3,rfl,j5⟩)
 simp only at hbr e2 s2 j2
 refine⟨_,hbr,?_⟩
 have hW2:=X_sound (draw_ok hm) ib k4 g8 ⟨S.w.heap.size,[],some l1⟩ ⟨ρ1,H1.set i (lpo P N drawB kk ps ia ib cs .busy),w1.putObj l1 (.loop { r1 with state:=.busy })⟩ a1 rfl s2 (g4.ext e2) g5 (g6.ext g3 e2)
 refine wpIn_mono hW2 ?_
 rintro e a3 w3 ⟨x3,env3,ρ3,H3,m1,m2,m3,m4,m5,m6,cs3,m7,st,b,H',m8,m9,m10⟩
 obtain⟨l3,r3,q1,q2,q3,q4,q5⟩:=m3.loop m7
 have hat2:(⟨ρ1,H1.set i (lpo P N drawB kk ps ia ib cs .busy),w1.putObj l1 (.loop { r1 with state:=.busy })⟩:St).H[i]? = some (lpo P N drawB kk ps ia ib cs .busy):=List.getElem?_set_self (getElem?_lt g7)
 have hl3:l3=l1:=lp_eq m2 hat2 m7 rfl (show ρ1 i=some l1 from j1) q1
 subst hl3
 have fin:∀ (jump:Option Code) (x:LoopState) (hx:x=(if jump.isNone then .ready else .done)),jump.isNone=b->LpSt { r3 with state:=x,pending:=jump } st →
  ∃ v w',(Instr.endRound l3 jump).run P w3=.ok v w'∧∃ (out:Out) (H':List AO) (v':Value) (ρ':Nat->Option Nat),Pt out H'∧Ext S.H.length S ⟨ρ',H',w'⟩∧Sim ⟨ρ',H',w'⟩ ∧
   match out with
   | .ret r=>Ending.returned v=.returned v'∧VR ⟨ρ',H',w'⟩ r v'
   | .pan x=>Ending.returned v=.panicked [{ v:=v',recovered:=false }]∧VR ⟨ρ',H',w'⟩ x v':=by
  intro jump x hx hj hst
  have hend:=run_endRound (P:=P) jump q2
  rw[←hx,hj]at hend
  obtain⟨e4,s4⟩:=turn_lp m3 (o':=lpo P N drawB kk ps ia ib cs3 st) (r':={ r3 with state:=x,pending:=jump }) m7 rfl (by simp[lpo]) q1 q2 rfl (Nat.le_refl _) (.inr ⟨kk,_,st,cs3,rfl,q3,hst,q5⟩)
  obtain⟨ρ',c1,c2,c3⟩:=m10 _ (.bool b) rfl s4 (.val _)
  refine⟨_,_,hend,.ret (bl b),H',.bool b,ρ',m9,?_,c2,rfl,c3⟩
  exact(g2.trans ((e2.trans ((m2.trans (e4.mono (m2.len (Nat.le_refl _)))).mono (e2.len (Nat.le_refl _)))).mono (g2.len (Nat.le_refl _)))).trans c1
 cases x3<;>cases e<;>simp only[ER]at m1
 · obtain⟨rfl,rfl⟩:=m8; exact fin none .ready rfl rfl ⟨rfl,rfl⟩
 · subst m1; obtain⟨rfl,rfl⟩:=m8; exact fin (some (.exit _)) .done rfl rfl ⟨rfl,rfl⟩
 · subst m1; obtain⟨rfl,rfl⟩:=m8; exact fin (some (.goto _)) .done rfl rfl ⟨rfl,rfl⟩
 · obtain⟨rfl,rfl⟩:=m8; exact fin (some .ret) .done rfl rfl ⟨rfl,rfl⟩
 · exact m8.elim
theorem yl_ok (hm:P.follows .mixedOrders=true) {i kk:Nat} {ps:List Nat} {ia ib:IC} {env:Env} {args:List SV} {H:List AO} {Pt:Out->List AO->Prop}
 (ho:H[i]? = some (lpo P N drawB kk ps ia ib (env.vals N) .ready)) (he:(env.all fun p=>decide (p.1<N))=true) (hp:(ps.all fun p=>decide (p<N))=true) (hl:args.length=ps.length)
 (hx:closed H->X P N drawB ia (env.puts ps args) H fun x env1 H1=>x=.normal∧∃ cs,H1[i]? = some (lpo P N drawB kk ps ia ib cs .ready)∧X P N drawB ib env1 (H1.set i (lpo P N drawB kk ps ia ib cs .busy)) (FinR P N kk ps ia ib i H.length Pt)) :
 YlP P i args H Pt:=yl_ok0 hm ho (fun S tmps h=>Env.of_vals h he) hp hl hx
end
end Go.Ab
namespace Go.Ab
variable [GlobEnv] [FrEnv] [KnEnv]
def Ev {α:Type} (v:α):α:=v
@[simp] theorem Ev_eq {α:Type} (v:α):Ev v=v:=Eq.trans rfl rfl
theorem Ev_to {α:Type} {v w:α} (h:Ev v=w):v=w:=h
def Kn (K:XE->Env->List AO->Prop) (x:XE) (env:Env) (d:Option Nat) (v:SV) (H:List AO):Prop:=K x (env.put d v) H
@[congr] theorem Kn_congr {K:XE->Env->List AO->Prop} {x:XE} {env:Env} {d:Option Nat} {v v':SV} {H H':List AO} (h1:Ev v=v') (h2:Ev H=H'):Kn K x env d v H=Kn K x env d v' H':=by rw[Ev_to h1,Ev_to h2]
@[simp] theorem Kn_some (K:XE->Env->List AO->Prop) (x:XE) (env:Env) (d:Nat) (v:SV) (H:List AO):Kn K x env (some d) v H=K x ((d,v)::env) H:=rfl
@[simp] theorem Kn_none (K:XE->Env->List AO->Prop) (x:XE) (env:Env) (v:SV) (H:List AO):Kn K x env none v H=K x env H:=rfl
def Ke (K:SV->List AO->Prop) (v:SV) (H:List AO):Prop:=K v H
@[congr] theorem Ke_congr {K:SV->List AO->Prop} {v v':SV} {H H':List AO} (h1:Ev v=v') (h2:Ev H=H'):Ke K v H=Ke K v' H':=by rw[Ev_to h1,Ev_to h2]
@[simp] theorem Ke_go (K:SV->List AO->Prop) (v:SV) (H:List AO):Ke K v H=K v H:=rfl
section
variable {P:Program} {N:Nat} {D:Array Oper->List Nat->List Ins->Bool}
@[simp ↓] theorem X_skip (env:Env) (H:List AO) (K:XE->Env->List AO->Prop):X P N D .skip env H K=K .normal env H:=rfl
@[simp ↓] theorem X_reg (l:List Ins) (env:Env) (H:List AO) (K:XE->Env->List AO->Prop):X P N D (.reg l) env H K=xops P l env H K:=rfl
@[simp ↓] theorem X_drw (m:List Nat) (l:List Ins) (env:Env) (H:List AO) (K:XE->Env->List AO->Prop):X P N D (.drw m l) env H K=xd P [] l env H fun x e H' =>
 match x with
 | .normal=>K .normal e H'
 | x=>K x (offE l env) H':=rfl
@[simp] theorem offE_nil (e:Env):offE [] e=e:=rfl
@[simp] theorem offE_cons (i:Ins) (r:List Ins) (e:Env):offE (i::r) e=(offE r e).put i.d .any:=rfl
@[simp ↓] theorem xrt_nil (n0:Nat) (l:List Ins) (env:Env) (H:List AO) (K:XE->Env->List AO->Prop):xrt P n0 l [] env H K=True:=rfl
@[simp ↓] theorem xrt_cons (n0:Nat) (l:List Ins) (o:List Nat) (os:List (List Nat)) (env:Env) (H:List AO) (K:XE->Env->List AO->Prop):xrt P n0 l (o::os) env H K=(xops P (pickT n0 l o) env H K∧xrt P n0 l os env H K):=rfl
@[simp ↓] theorem pickT_nil (n0:Nat) (l:List Ins):pickT n0 l []=[]:=rfl
@[simp ↓] theorem pickT_cons (n0:Nat) (l:List Ins) (i:Nat) (o:List Nat):pickT n0 l (i::o)=(match l[i-n0]? with | some x=>x::pickT n0 l o | none=>pickT n0 l o):=by
 unfold pickT; rw[List.filterMap_cons]; cases l[i-n0]? <;> rfl
@[simp ↓] theorem xre_nil (l:List Ins) (env:Env) (H:List AO) (K:XE->Env->List AO->Prop):xre P l [] env H K=True:=rfl
@[simp ↓] theorem xre_cons (l:List Ins) (o:List Nat) (os:List (List Nat)) (env:Env) (H:List AO) (K:XE->Env->List AO->Prop):xre P l (o::os) env H K=(xops P (pickI l o) env H K∧xre P l os env H K):=rfl
@[simp ↓] theorem pickI_nil (l:List Ins):pickI l []=[]:=rfl
@[simp ↓] theorem X_seq (a b:IC) (env:Env) (H:List AO) (K:XE->Env->List AO->Prop):X P N D (.seq a b) env H K=X P N D a env H fun x env H =>
 match x with
 | .normal=>X P N D b env H K
 | x=>K x env H:=rfl
@[simp ↓] theorem X_blk (id:Nat) (a:IC) (env:Env) (H:List AO) (K:XE->Env->List AO->Prop):X P N D (.blk id a) env H K=X P N D a env H fun x env H =>
 match x with
 | .exit i=>if i=id then K .normal env H else K (.exit i) env H
 | x=>K x env H:=rfl
@[simp ↓] theorem X_scp (a:IC) (env:Env) (H:List AO) (K:XE->Env->List AO->Prop):X P N D (.scp a) env H K=X P N D a env H fun x env H =>
 match x with
 | .goto _=>False
 | x=>K x env H:=rfl
@[simp ↓] theorem X_lab (env:Env) (H:List AO) (K:XE->Env->List AO->Prop):X P N D .lab env H K=K .normal env H:=rfl
@[simp ↓] theorem X_exit (id:Nat) (env:Env) (H:List AO) (K:XE->Env->List AO->Prop):X P N D (.exit id) env H K=K (.exit id) env H:=rfl
@[simp ↓] theorem X_ret (env:Env) (H:List AO) (K:XE->Env->List AO->Prop):X P N D .ret env H K=K .ret env H:=rfl
@[simp ↓] theorem X_keep (ks:List Nat) (a:IC) (env:Env) (H:List AO) (K:XE->Env->List AO->Prop):X P N D (.keep ks a) env H K=X P N D a (env.keep ks) H K:=rfl
def sCond (c:SV) (a b:Prop):Prop:=c.isB=true∧if c.bool=true then a else b
@[congr] theorem sCond_congr {c c':SV} {a b:Prop} (h:Ev c=c'):sCond c a b=sCond c' a b:=by rw[Ev_to h]
@[simp] theorem sCond_go (c:SV) (a b:Prop):sCond c a b=(c.isB=true∧if c.bool=true then a else b):=rfl
@[simp ↓] theorem X_cond (c:Od) (a b:IC) (env:Env) (H:List AO) (K:XE->Env->List AO->Prop):X P N D (.cond c a b) env H K=sCond (env.ev c) (X P N D a env H K) (X P N D b env H K):=by
 apply propext
 simp only[X,sCond]
 cases (env.ev c).bool<;>simp
def Lp (P:Program) (N:Nat) (D:Array Oper->List Nat->List Ins->Bool) (i:IC) (env:Env) (H:List AO) (K:XE->Env->List AO->Prop):Prop:=LI P N D i env H K
@[congr] theorem Lp_congr {i:IC} {env env':Env} {H H':List AO} {K:XE->Env->List AO->Prop} (h:Ev env=env') (h2:Ev H=H'):Lp P N D i env H K=Lp P N D i env' H' K:=by rw[Ev_to h,Ev_to h2]
@[simp ↓] theorem X_loop (i:IC) (env:Env) (H:List AO) (K:XE->Env->List AO->Prop):X P N D (.loop i) env H K=Lp P N D i env H K:=rfl
@[simp ↓] theorem xops_nil (env:Env) (H:List AO) (K:XE->Env->List AO->Prop):xops P [] env H K=K .normal env H:=rfl
@[simp ↓] theorem xops_cons (o:Ins) (r:List Ins) (env:Env) (H:List AO) (K:XE->Env->List AO->Prop):xops P (o::r) env H K=xo P o env H fun x env H =>
 match x with
 | .normal=>xops P r env H K
 | x=>K x env H:=rfl
def CallTo (P:Program) (f:SV) (args:List SV) (H:List AO) (K:Out->List AO->Prop):Prop:=∃ Pt:Out->List AO->Prop,OkCP P f args H Pt∧∀ out H',Pt out H'->K out H'
@[congr] theorem CallTo_congr {f f':SV} {args args':List SV} {H H':List AO} {K:Out->List AO->Prop} (h1:Ev f=f') (h2:Ev args=args') (h3:Ev H=H'):CallTo P f args H K=CallTo P f' args' H' K:=by rw[Ev_to h1,Ev_to h2,Ev_to h3]
theorem call_of {k:FuncId} {a b args:List SV} {H H':List AO} {out:Out} {K:Out->List AO->Prop} (h:Ok P k (a++args++b) H out H') (hk:K out H'):CallTo P (.fn (.func k) a b) args H K :=
 ⟨_,⟨rfl,h.toP⟩,fun o h' hp=>by obtain⟨rfl,rfl⟩:=hp; exact hk⟩
theorem call_ofP {k:FuncId} {a b args:List SV} {H:List AO} {Pt:Out->List AO->Prop} {K:Out->List AO->Prop} (h:OkP P k (a++args++b) H Pt) (hk:∀ out H',Pt out H'->K out H'):CallTo P (.fn (.func k) a b) args H K :=
 ⟨_,⟨rfl,h⟩,hk⟩
theorem call_goP {k:FuncId} {args:List SV} {H:List AO} {Pt:Out->List AO->Prop} {K:Out->List AO->Prop} (h:OkP P k args H Pt) (hk:∀ out H',Pt out H'->K out H'):CallTo P (.fn (.func k) [] []) args H K :=
 call_ofP (by simpa using h) hk
theorem call_cP {f:SV} {args:List SV} {H:List AO} {Pt:Out->List AO->Prop} {K:Out->List AO->Prop} (h:OkCP P f args H Pt) (hk:∀ out H',Pt out H'->K out H'):CallTo P f args H K:=⟨_,h,hk⟩
theorem okCP_of {k:FuncId} {a b args:List SV} {H:List AO} {Pt:Out->List AO->Prop} (h:OkP P k (a++args++b) H Pt):OkCP P (.fn (.func k) a b) args H Pt:=⟨rfl,h⟩
theorem call_go {k:FuncId} {args:List SV} {H H':List AO} {out:Out} {K:Out->List AO->Prop} (h:Ok P k args H out H') (hk:K out H'):CallTo P (.fn (.func k) [] []) args H K :=
 call_of (by simpa using h) hk
def CallQ (P:Program) (on:Bool) (f:SV) (args:List SV) (H:List AO) (K:SV->Prop):Prop:=∃ r,(on=true->OkC P f args H (.ret r) H)∧K r
@[congr] theorem CallQ_congr {on on':Bool} {f f':SV} {args args':List SV} {H H':List AO} {K:SV->Prop} (h0:Ev on=on') (h1:Ev f=f') (h2:Ev args=args') (h3:Ev H=H'):CallQ P on f args H K=CallQ P on' f' args' H' K:=by rw[Ev_to h0,Ev_to h1,Ev_to h2,Ev_to h3]
theorem callq_of {on:Bool} {k:FuncId} {a b args:List SV} {H:List AO} {r:SV} {K:SV->Prop} (h:on=true->Ok P k (a++args++b) H (.ret r) H) (hk:K r):CallQ P on (.fn (.func k) a b) args H K :=
 ⟨r,fun ho=>⟨rfl,h ho⟩,hk⟩
theorem callq_go {on:Bool} {k:FuncId} {args:List SV} {H:List AO} {r:SV} {K:SV->Prop} (h:on=true->Ok P k args H (.ret r) H) (hk:K r):CallQ P on (.fn (.func k) [] []) args H K :=
 callq_of (by simpa using h) hk
theorem callq_off (f:SV) (args:List SV) (H:List AO) (K:SV->Prop) (h:K .any):CallQ P false f args H K:=⟨.any,fun h=>by simp at h,h⟩
theorem okC_go {k:FuncId} {args:List SV} {H H':List AO} {out:Out} (h:Ok P k args H out H'):OkC P (.fn (.func k) [] []) args H out H':=⟨rfl,by show Ok P k ([]++args++[]) H out H'; simpa using h⟩
@[simp ↓] theorem xo_p (d:Option Nat) (i:I) (env:Env) (H:List AO) (K:XE->Env->List AO->Prop):xo P ⟨d,none,.p i⟩ env H K=((pv i env.ev H).1∧Kn K .normal env d (pv i env.ev H).2 H):=rfl
@[simp ↓] theorem xo_call (d:Option Nat) (f:Od) (args:List Od) (env:Env) (H:List AO) (K:XE->Env->List AO->Prop):xo P ⟨d,none,.e (.call f args)⟩ env H K=CallTo P (env.ev f) (args.map env.ev) H fun out H' =>
     match out with
     | .ret r=>K .normal (env.put d r) H'
     | .pan x=>K (.panic x) env H':=rfl
def sOn (c:SV) (want:Bool) (F:Bool->Prop):Prop:=c.bish=true∧F (c.on want)
@[congr] theorem sOn_congr {c c':SV} {want:Bool} {F:Bool->Prop} (h:Ev c=c'):sOn c want F=sOn c' want F:=by rw[Ev_to h]
def sGo (b:Bool) (F:Bool->Prop):Prop:=F b
@[congr] theorem sGo_congr {b b':Bool} {F:Bool->Prop} (h:Ev b=b'):sGo b F=sGo b' F:=by rw[Ev_to h]
@[simp] theorem sGo_go (b:Bool) (F:Bool->Prop):sGo b F=F b:=rfl
@[simp] theorem sOn_go (c:SV) (want:Bool) (F:Bool->Prop):sOn c want F=(c.bish=true∧sGo (c.on want) F):=rfl
@[simp ↓] theorem xo_gp (d:Option Nat) (s:Nat) (want:Bool) (i:I) (env:Env) (H:List AO) (K:XE->Env->List AO->Prop):xo P ⟨d,some (s,want),.p i⟩ env H K=sOn (env.get s) want fun b=>(b=true->(pv i env.ev H).1)∧Kn K .normal env d (.gd b (pv i env.ev H).2) H:=rfl
@[simp ↓] theorem xo_gq (d:Option Nat) (s:Nat) (want:Bool) (f:Od) (args:List Od) (env:Env) (H:List AO) (K:XE->Env->List AO->Prop):xo P ⟨d,some (s,want),.q f args⟩ env H K=sOn (env.get s) want fun b=>CallQ P b (env.ev f) (args.map env.ev) H fun r=>K .normal (env.put d (.gd b r)) H:=rfl
@[simp ↓] theorem xo_ge (d:Option Nat) (s:Nat) (want:Bool) (i:E) (env:Env) (H:List AO) (K:XE->Env->List AO->Prop):xo P ⟨d,some (s,want),.e i⟩ env H K=sOn (env.get s) want fun b=>if b=true then xo P ⟨d,none,.e i⟩ env H K else K .normal (env.put d (.val undef)) H:=by
 apply propext
 simp only[xo,sOn,xj]
 cases (env.get s).on want<;>simp
def xdn (P:Program) (pend:List (Ins×SV)) (o:Ins) (v:SV) (r:List Ins) (env:Env) (H:List AO) (K:XE->Env->List AO->Prop):Prop:=xd P ((o,v)::pend) r (env.put o.d v) H K
@[congr] theorem xdn_congr {pend:List (Ins×SV)} {o:Ins} {v v':SV} {r:List Ins} {env:Env} {H:List AO} {K:XE->Env->List AO->Prop} (h:Ev v=v'):xdn P pend o v r env H K=xdn P pend o v' r env H K:=by rw[Ev_to h]
@[simp ↓] theorem xd_nil (pend:List (Ins×SV)) (env:Env) (H:List AO) (K:XE->Env->List AO->Prop):xd P pend [] env H K=K .normal env H:=rfl
@[simp ↓] theorem xd_p (pend:List (Ins×SV)) (d:Option Nat) (i:I) (r:List Ins) (env:Env) (H:List AO) (K:XE->Env->List AO->Prop):xd P pend (⟨d,none,.p i⟩::r) env H K=((pv i env.ev H).1∧xdn P pend ⟨d,none,.p i⟩ (pv i env.ev H).2 r env H K):=rfl
@[simp ↓] theorem xd_q (pend:List (Ins×SV)) (d:Option Nat) (f:Od) (args:List Od) (r:List Ins) (env:Env) (H:List AO) (K:XE->Env->List AO->Prop):xd P pend (⟨d,none,.q f args⟩::r) env H K=CallQ P true (env.ev f) (args.map env.ev) H fun v=>xd P ((⟨d,none,.q f args⟩,v)::pend) r (env.put d v) H K:=by
 simp only[CallQ,true_implies]; rfl
@[simp ↓] theorem xd_gp (pend:List (Ins×SV)) (d:Option Nat) (s:Nat) (want:Bool) (i:I) (r:List Ins) (env:Env) (H:List AO) (K:XE->Env->List AO->Prop):xd P pend (⟨d,some (s,want),.p i⟩::r) env H K=sOn (env.get s) want fun b=>(b=true->(pv i env.ev H).1)∧xdn P pend ⟨d,some (s,want),.p i⟩ (.gd b (pv i env.ev H).2) r env H K:=rfl
@[simp ↓] theorem xd_gq (pend:List (Ins×SV)) (d:Option Nat) (s:Nat) (want:Bool) (f:Od) (args:List Od) (r:List Ins) (env:Env) (H:List AO) (K:XE->Env->List AO->Prop):xd P pend (⟨d,some (s,want),.q f args⟩::r) env H K=sOn (env.get s) want fun b=>CallQ P b (env.ev f) (args.map env.ev) H fun v=>xd P ((⟨d,some (s,want),.q f args⟩,.gd b v)::pend) r (env.put d (.gd b v)) H K:=rfl
def owed (P:Program) (env:Env) (H:List AO):List (Ins×SV)->Prop
 | []=>True
 | p::r=>quietV P p.1 env H p.2∧owed P env H r
theorem owed_eq (env:Env) (H:List AO):∀ l,owed P env H l=∀ p∈l,quietV P p.1 env H p.2
 | []=>by simp[owed]
 | p::r=>by simp only[owed,owed_eq env H r,List.forall_mem_cons]
attribute [simp] loose needed hasD Ins.slots J.slots I.ods E.ods Od.slots
@[simp] theorem owed_nil (env:Env) (H:List AO):owed P env H []=True:=rfl
@[simp] theorem owed_cons (env:Env) (H:List AO) (o:Ins) (v:SV) (r:List (Ins×SV)):owed P env H ((o,v)::r)=(quietV P o env H v∧owed P env H r):=rfl
@[simp ↓] theorem xd_e (pend:List (Ins×SV)) (d:Option Nat) (g:Option (Nat×Bool)) (i:E) (r:List Ins) (env:Env) (H:List AO) (K:XE->Env->List AO->Prop):xd P pend (⟨d,g,.e i⟩::r) env H K=xo P ⟨d,g,.e i⟩ env H fun x env' H' =>
     match x with
     | .normal=>owed P env' H' (pend.filter fun p=>loose ⟨d,g,.e i⟩ pend p.1)∧xd P pend r env' H' K
     | x=>K x [] H':=by
 rw[xd,if_neg (by simp[J.quiet])]
 congr 1
 funext x env' H'
 cases x<;>try rfl
 simp only[owed_eq,List.mem_filter,and_imp]
@[simp ↓] theorem quietV_p (d:Option Nat) (i:I) (env:Env) (H:List AO) (v:SV):quietV P ⟨d,none,.p i⟩ env H v=((pv i env.ev H).1∧v=(pv i env.ev H).2):=rfl
@[simp ↓] theorem quietV_q (d:Option Nat) (f:Od) (args:List Od) (env:Env) (H:List AO) (v:SV):quietV P ⟨d,none,.q f args⟩ env H v=OkC P (env.ev f) (args.map env.ev) H (.ret v) H:=rfl
@[simp ↓] theorem quietV_gp (d:Option Nat) (s:Nat) (want:Bool) (i:I) (env:Env) (H:List AO) (v:SV):quietV P ⟨d,some (s,want),.p i⟩ env H v=sOn (env.get s) want fun b=>(b=true->(pv i env.ev H).1)∧v=.gd b (pv i env.ev H).2:=rfl
@[simp] theorem dep_p (i:I):J.dep (.p i)=(match i with | .ld1 _ | .ldn _ _ | .lkp _ _ _ _ _ | .bys _=>true | _=>false):=by cases i<;>rfl
@[simp] theorem xdn_go (pend:List (Ins×SV)) (o:Ins) (v:SV) (r:List Ins) (env:Env) (H:List AO) (K:XE->Env->List AO->Prop):xdn P pend o v r env H K=xd P ((o,v)::pend) r (env.put o.d v) H K:=rfl
def s_alc (T:TypeId) (z:List SV) (H:List AO) (K:SV->List AO->Prop):Prop:=K (.ptr (.own H.length 0 0 0 0) 0) (H++[⟨z,T,0,true⟩])
@[congr] theorem s_alc_congr {T:TypeId} {z:List SV} {H H':List AO} {K:SV->List AO->Prop} (h9:Ev H=H'):s_alc T z H K=s_alc T z H' K:=by rw[Ev_to h9]
@[simp ↓] theorem xo_alc (d:Option Nat) (T:TypeId) (z:List SV) (env:Env) (H:List AO) (K:XE->Env->List AO->Prop):xo P ⟨d,none,.e (.alc T z)⟩ env H K=s_alc T z H fun v H'=>K .normal (env.put d v) H':=rfl
@[simp] theorem s_alc_go (T:TypeId) (z:List SV) (H:List AO) (K:SV->List AO->Prop):s_alc T z H K=(Ke K (.ptr (.own H.length 0 0 0 0) 0) (H++[⟨z,T,0,true⟩])):=rfl
def s_box (T:TypeId) (x:SV) (H:List AO) (K:SV->List AO->Prop):Prop:=x.vd=true∧cellsOk x.ug.flat∧K (.ptr (.own H.length 0 0 0 0) 0) (H++[⟨x.ug.flat,T,0,true⟩])
@[congr] theorem s_box_congr {T:TypeId} {x x':SV} {H H':List AO} {K:SV->List AO->Prop} (h0:Ev x=x') (h9:Ev H=H'):s_box T x H K=s_box T x' H' K:=by rw[Ev_to h0,Ev_to h9]
@[simp ↓] theorem xo_box (d:Option Nat) (T:TypeId) (x:Od) (env:Env) (H:List AO) (K:XE->Env->List AO->Prop):xo P ⟨d,none,.e (.box T x)⟩ env H K=s_box T (env.ev x) H fun v H'=>K .normal (env.put d v) H':=rfl
@[simp] theorem s_box_go (T:TypeId) (x:SV) (H:List AO) (K:SV->List AO->Prop):s_box T x H K=(x.vd=true∧cellsOk x.ug.flat∧Ke K (.ptr (.own H.length 0 0 0 0) 0) (H++[⟨x.ug.flat,T,0,true⟩])):=rfl
def s_mks (T:TypeId) (sz:Nat) (bytes:Nat) (z:List SV) (len:SV) (cap:SV) (H:List AO) (K:SV->List AO->Prop):Prop:=len.isN=true∧cap.isN=true∧0≤len.int∧len.int≤cap.int∧bytes*cap.int≤140737488355328∧cap.int≤140737488355328∧K (.own H.length 0 len.int.toNat sz 0) (H++[⟨(List.replicate len.int.toNat z).flatten,T,0,true⟩])
@[simp] theorem s_mks_go (T:TypeId) (sz:Nat) (bytes:Nat) (z:List SV) (len:SV) (cap:SV) (H:List AO) (K:SV->List AO->Prop):s_mks T sz bytes z len cap H K=(len.isN=true∧cap.isN=true∧0≤len.int∧len.int≤cap.int∧bytes*cap.int≤140737488355328∧cap.int≤140737488355328∧Ke K (.own H.length 0 len.int.toNat sz 0) (H++[⟨(List.replicate len.int.toNat z).flatten,T,0,true⟩])):=rfl
def s_app (T:TypeId) (sz:Nat) (bytes:Nat) (s:SV) (x:SV) (H:List AO) (K:SV->List AO->Prop):Prop:=s.vd=true∧x.vd=true∧x.ug.isSl=true∧x.ug.slen*sz≤(x.ug.row H).length∧cellsOk (x.ug.els H sz) ∧
     (s.ug.slen+x.ug.slen)*bytes≤140737488355328∧s.ug.slen+x.ug.slen≤140737488355328 ∧
     match s.ug with
     | .own i 0 n sz' ver =>
       sz'=sz∧(∃ o,H[i]? = some o∧o.live=true∧o.ver=ver∧o.ty=T∧o.cells.length=n*sz)∧K (.own i 0 (n+x.ug.slen) sz (ver+1)) (setObj H i fun o=>o.grow (x.ug.els H sz))
     | v=>v.isNil=true∧K (.own H.length 0 x.ug.slen sz 1) (H++[⟨x.ug.els H sz,T,1,true⟩])
@[congr] theorem s_app_congr {T:TypeId} {sz:Nat} {bytes:Nat} {s s':SV} {x x':SV} {H H':List AO} {K:SV->List AO->Prop} (h0:Ev s=s') (h1:Ev x=x') (h9:Ev H=H'):s_app T sz bytes s x H K=s_app T sz bytes s' x' H' K:=by rw[Ev_to h0,Ev_to h1,Ev_to h9]
@[simp ↓] theorem xo_app (d:Option Nat) (T:TypeId) (sz:Nat) (bytes:Nat) (s:Od) (x:Od) (env:Env) (H:List AO) (K:XE->Env->List AO->Prop):xo P ⟨d,none,.e (.app T sz bytes s x)⟩ env H K=s_app T sz bytes (env.ev s) (env.ev x) H fun v H'=>K .normal (env.put d v) H':=rfl
def objIs (H:List AO) (i ver:Nat) (T:TypeId) (m:Nat):Prop:=∃ o,H[i]? = some o∧o.live=true∧o.ver=ver∧o.ty=T∧o.cells.length=m
@[simp] theorem s_app_own (T:TypeId) (sz bytes i n sz' ver:Nat) (x:SV) (H:List AO) (K:SV->List AO->Prop):s_app T sz bytes (.own i 0 n sz' ver) x H K=(x.vd=true∧x.ug.isSl=true∧x.ug.slen*sz≤(x.ug.row H).length∧cellsOk (x.ug.els H sz) ∧
     (n+x.ug.slen)*bytes≤140737488355328∧n+x.ug.slen≤140737488355328∧sz'=sz∧objIs H i ver T (n*sz)∧Ke K (.own i 0 (n+x.ug.slen) sz (ver+1)) (setObj H i fun o=>o.grow (x.ug.els H sz))):=by
 simp[s_app,SV.vd,SV.ug,SV.slen,objIs,Ke]
def s_st (n:Nat) (p:SV) (x:SV) (H:List AO) (K:SV->List AO->Prop):Prop:=p.vd=true∧x.vd=true∧cellsOk x.ug.flat∧x.ug.flat.length=n∧0<n ∧
     match p.ug with
     | .ptr (.own i off _ _ ver) k=>off+k+n≤(objCells H i ver).length∧K (.val undef) (setObj H i fun o=>o.put (off+k) x.ug.flat)
     | _=>False
@[congr] theorem s_st_congr {n:Nat} {p p':SV} {x x':SV} {H H':List AO} {K:SV->List AO->Prop} (h0:Ev p=p') (h1:Ev x=x') (h9:Ev H=H'):s_st n p x H K=s_st n p' x' H' K:=by rw[Ev_to h0,Ev_to h1,Ev_to h9]
@[simp ↓] theorem xo_st (d:Option Nat) (n:Nat) (p:Od) (x:Od) (env:Env) (H:List AO) (K:XE->Env->List AO->Prop):xo P ⟨d,none,.e (.st n p x)⟩ env H K=s_st n (env.ev p) (env.ev x) H fun v H'=>K .normal (env.put d v) H':=rfl
@[simp] theorem s_st_ptr (n i off len sz ver k:Nat) (x:SV) (H:List AO) (K:SV->List AO->Prop):s_st n (.ptr (.own i off len sz ver) k) x H K=(x.vd=true∧cellsOk x.ug.flat∧x.ug.flat.length=n∧0<n ∧
     off+k+n≤(objCells H i ver).length∧Ke K (.val undef) (setObj H i fun o=>o.put (off+k) x.ug.flat)):=by
 simp[s_st,SV.vd,SV.ug,Ke]
def s_pan (x:SV) (K:SV->Prop):Prop:=x.vd=true∧match x.ug with
 | .ifc t y=>K (.ifc t y)
 | _=>False
@[congr] theorem s_pan_congr {x x':SV} {K:SV->Prop} (h:Ev x=x'):s_pan x K=s_pan x' K:=by rw[Ev_to h]
@[simp] theorem s_pan_ifc (t:TypeId) (y:SV) (K:SV->Prop):s_pan (.ifc t y) K=K (.ifc t y):=by simp[s_pan,SV.vd,SV.ug]
@[simp ↓] theorem xo_pan (d:Option Nat) (x:Od) (env:Env) (H:List AO) (K:XE->Env->List AO->Prop):xo P ⟨d,none,.e (.pan x)⟩ env H K=s_pan (env.ev x) fun y=>K (.panic y) env H:=rfl
@[simp ↓] theorem xo_stw (d:Option Nat) (ws:List Nat) (n:Nat) (p x:Od) (env:Env) (H:List AO) (K:XE->Env->List AO->Prop):xo P ⟨d,none,.e (.stw ws n p x)⟩ env H K=s_st n (env.ev p) (env.ev x) H fun v H'=>K .normal (env.put d v) H':=rfl
def s_nil (T:TypeId) (sz:Nat) (x:SV) (H:List AO) (K:SV->List AO->Prop):Prop:=x.vd=true∧x.ug.isNil=true∧K (.own H.length 0 0 sz 0) (H++[⟨[],T,0,true⟩])
@[simp ↓] theorem xo_nil (d:Option Nat) (T:TypeId) (sz:Nat) (x:Od) (env:Env) (H:List AO) (K:XE->Env->List AO->Prop):xo P ⟨d,none,.e (.nil T sz x)⟩ env H K=s_nil T sz (env.ev x) H fun v H'=>K .normal (env.put d v) H':=rfl
@[simp] theorem s_nil_go (T:TypeId) (sz:Nat) (x:SV) (H:List AO) (K:SV->List AO->Prop):s_nil T sz x H K=(x.vd=true∧x.ug.isNil=true∧Ke K (.own H.length 0 0 sz 0) (H++[⟨[],T,0,true⟩])):=rfl
def s_sl0 (T:TypeId) (sz:Nat) (x:SV) (H:List AO) (K:SV->List AO->Prop):Prop:=x.vd=true∧x.ug.isSl=true∧K (.own H.length 0 0 sz 0) (H++[⟨[],T,0,true⟩])
@[simp] theorem s_sl0_go (T:TypeId) (sz:Nat) (x:SV) (H:List AO) (K:SV->List AO->Prop):s_sl0 T sz x H K=(x.vd=true∧x.ug.isSl=true∧Ke K (.own H.length 0 0 sz 0) (H++[⟨[],T,0,true⟩])):=rfl
def s_aps (T:TypeId) (s:SV) (x:SV) (H:List AO) (K:SV->List AO->Prop):Prop:=s.vd=true∧x.isS=true∧s.ug.slen+x.str.size≤140737488355328 ∧
     match s.ug with
     | .own i 0 n sz' ver =>
       sz'=1∧(∃ o,H[i]? = some o∧o.live=true∧o.ver=ver∧o.ty=T∧o.cells.length=n*1)∧K (.own i 0 (n+x.str.size) 1 (ver+1)) (setObj H i fun o=>o.grow (sbyts x.str))
     | v=>v.isNil=true∧K (.own H.length 0 x.str.size 1 1) (H++[⟨sbyts x.str,T,1,true⟩])
@[congr] theorem s_aps_congr {T:TypeId} {s s':SV} {x x':SV} {H H':List AO} {K:SV->List AO->Prop} (h0:Ev s=s') (h1:Ev x=x') (h9:Ev H=H'):s_aps T s x H K=s_aps T s' x' H' K:=by rw[Ev_to h0,Ev_to h1,Ev_to h9]
@[simp ↓] theorem xo_aps (d:Option Nat) (T:TypeId) (s:Od) (x:Od) (env:Env) (H:List AO) (K:XE->Env->List AO->Prop):xo P ⟨d,none,.e (.aps T s x)⟩ env H K=s_aps T (env.ev s) (env.ev x) H fun v H'=>K .normal (env.put d v) H':=rfl
@[simp] theorem s_aps_own (T:TypeId) (i n sz' ver:Nat) (x:SV) (H:List AO) (K:SV->List AO->Prop):s_aps T (.own i 0 n sz' ver) x H K=(x.isS=true ∧
     n+x.str.size≤140737488355328∧sz'=1∧objIs H i ver T (n*1)∧Ke K (.own i 0 (n+x.str.size) 1 (ver+1)) (setObj H i fun o=>o.grow (sbyts x.str))):=by
 simp[s_aps,SV.vd,SV.ug,SV.slen,objIs,Ke]
def s_sby (x:SV) (H:List AO) (K:SV->List AO->Prop):Prop:=x.isS=true∧K (.slc (sbyts x.str) x.str.size) H
@[congr] theorem s_sby_congr {x x':SV} {H H':List AO} {K:SV->List AO->Prop} (h0:Ev x=x') (h9:Ev H=H'):s_sby x H K=s_sby x' H' K:=by rw[Ev_to h0,Ev_to h9]
@[simp ↓] theorem xo_sby (d:Option Nat) (x:Od) (env:Env) (H:List AO) (K:XE->Env->List AO->Prop):xo P ⟨d,none,.e (.sby x)⟩ env H K=s_sby (env.ev x) H fun v H'=>K .normal (env.put d v) H':=rfl
@[simp] theorem s_sby_go (x:SV) (H:List AO) (K:SV->List AO->Prop):s_sby x H K=(x.isS=true∧Ke K (.slc (sbyts x.str) x.str.size) H):=rfl
def s_mkm (T:TypeId) (H:List AO) (K:SV->List AO->Prop):Prop:=K (.mp H.length 0) (H++[⟨[.mk []],T,0,false⟩])
@[congr] theorem s_mkm_congr {T:TypeId} {H H':List AO} {K:SV->List AO->Prop} (h9:Ev H=H'):s_mkm T H K=s_mkm T H' K:=by rw[Ev_to h9]
@[simp ↓] theorem xo_mkm (d:Option Nat) (T:TypeId) (env:Env) (H:List AO) (K:XE->Env->List AO->Prop):xo P ⟨d,none,.e (.mkm T)⟩ env H K=s_mkm T H fun v H'=>K .normal (env.put d v) H':=rfl
@[simp] theorem s_mkm_go (T:TypeId) (H:List AO) (K:SV->List AO->Prop):s_mkm T H K=Ke K (.mp H.length 0) (H++[⟨[.mk []],T,0,false⟩]):=rfl
def s_mup (kk:KK) (m k v:SV) (H:List AO) (K:SV->List AO->Prop):Prop:=m.vd=true∧k.isK kk=true∧v.vd=true ∧
     match m.ug,m.ug.mapOf H with
     | .mp i _,some x=>x.1.all kk.is=true∧(∀ v∈k.key kk::x.1,kk.knows v)∧K (.val undef) (setObj H i fun o=>{ o with cells:=.mk (msetK (k.key kk) x.1)::msetV (k.key kk) v.ug x.1 x.2 })
     | _,_=>False
@[congr] theorem s_mup_congr {kk:KK} {m m' k k' v v':SV} {H H':List AO} {K:SV->List AO->Prop} (h0:Ev m=m') (h1:Ev k=k') (h2:Ev v=v') (h9:Ev H=H'):s_mup kk m k v H K=s_mup kk m' k' v' H' K:=by rw[Ev_to h0,Ev_to h1,Ev_to h2,Ev_to h9]
@[simp ↓] theorem xo_mup (d:Option Nat) (kk:KK) (m k v:Od) (env:Env) (H:List AO) (K:XE->Env->List AO->Prop):xo P ⟨d,none,.e (.mup kk m k v)⟩ env H K=s_mup kk (env.ev m) (env.ev k) (env.ev v) H fun w H'=>K .normal (env.put d w) H':=rfl
theorem s_mup_go {kk:KK} {i ver:Nat} {k v:SV} {H:List AO} {K:SV->List AO->Prop} {x:List Value×List SV} (hm:(SV.mp i ver).mapOf H=some x) (hk:k.isK kk=true) (hv:v.vd=true) (ha:x.1.all kk.is=true)
 (h:K (.val undef) (setObj H i fun o=>{ o with cells:=.mk (msetK (k.key kk) x.1)::msetV (k.key kk) v.ug x.1 x.2 })) (hkn:∀ v∈k.key kk::x.1,kk.knows v:=by simp):s_mup kk (.mp i ver) k v H K:=by
 refine⟨rfl,hk,hv,?_⟩
 simp only[SV.ug]
 rw[hm]
 exact⟨ha,hkn,h⟩
def s_snil (neg:Bool) (right:Bool) (x:SV) (H:List AO) (K:SV->List AO->Prop):Prop:=x.vd=true∧x.ug.isSl=true∧(x.ug.slen≠0->K (bl neg) H)∧(x.ug.slen=0->K (bl neg) H∧K (bl (!neg)) H)
@[simp] theorem s_snil_go (neg:Bool) (right:Bool) (x:SV) (H:List AO) (K:SV->List AO->Prop):s_snil neg right x H K=(x.vd=true∧x.ug.isSl=true∧(x.ug.slen≠0->Ke K (bl neg) H)∧(x.ug.slen=0->Ke K (bl neg) H∧Ke K (bl (!neg)) H)):=rfl
def s_bsl (T:TypeId) (sz len:Nat) (z:List SV) (parts:List (Nat×SV)) (H:List AO) (K:SV->List AO->Prop):Prop :=
 (∀ p∈parts,partOk sz p.2∧p.1*sz+sz≤len*sz)∧cellsOk (fillS (List.replicate len z).flatten (parts.map fun p=>(p.1*sz,p.2))) ∧
  K (.own H.length 0 len sz 0) (H++[⟨fillS (List.replicate len z).flatten (parts.map fun p=>(p.1*sz,p.2)),T,0,true⟩])
@[congr] theorem s_bsl_congr {T:TypeId} {sz len:Nat} {z:List SV} {parts parts':List (Nat×SV)} {H H':List AO} {K:SV->List AO->Prop} (h:Ev parts=parts') (h2:Ev H=H'):s_bsl T sz len z parts H K=s_bsl T sz len z parts' H' K:=by rw[Ev_to h,Ev_to h2]
@[simp ↓] theorem xo_bsl (d:Option Nat) (T:TypeId) (sz len:Nat) (z:List SV) (parts:List (Nat×Od)) (env:Env) (H:List AO) (K:XE->Env->List AO->Prop) :
 xo P ⟨d,none,.e (.bsl T sz len z parts)⟩ env H K=s_bsl T sz len z (parts.map fun p=>(p.1,env.ev p.2)) H fun v H'=>K .normal (env.put d v) H':=by
 simp only[xo,xj,xe,s_bsl,List.map_map,Function.comp_def,List.forall_mem_map]
@[simp] theorem s_bsl_go (T:TypeId) (sz len:Nat) (z:List SV) (parts:List (Nat×SV)) (H:List AO) (K:SV->List AO->Prop):s_bsl T sz len z parts H K=(
 (∀ p∈parts,partOk sz p.2∧p.1*sz+sz≤len*sz)∧cellsOk (fillS (List.replicate len z).flatten (parts.map fun p=>(p.1*sz,p.2))) ∧
  Ke K (.own H.length 0 len sz 0) (H++[⟨fillS (List.replicate len z).flatten (parts.map fun p=>(p.1*sz,p.2)),T,0,true⟩])):=rfl
def ldv (H:List AO) (p:SV):SV:=(p.at H).headD .any
def ldvs (H:List AO) (p:SV) (n:Nat):List SV:=(p.at H).take n
def ldok (H:List AO) (p:SV) (n:Nat):Prop:=n≤(p.at H).length
@[simp] theorem ldv_own (H:List AO) (i off len sz ver k:Nat):ldv H (.ptr (.own i off len sz ver) k)=(((objCells H i ver).drop off).drop k).headD .any:=rfl
@[simp] theorem ldv_slc (H:List AO) (c:List SV) (n k:Nat):ldv H (.ptr (.slc c n) k)=(c.drop k).headD .any:=rfl
@[simp] theorem ldvs_own (H:List AO) (i off len sz ver k n:Nat):ldvs H (.ptr (.own i off len sz ver) k) n=(((objCells H i ver).drop off).drop k).take n:=rfl
@[simp] theorem ldvs_slc (H:List AO) (c:List SV) (m k n:Nat):ldvs H (.ptr (.slc c m) k) n=(c.drop k).take n:=rfl
@[simp] theorem ldok_own (H:List AO) (i off len sz ver k n:Nat):ldok H (.ptr (.own i off len sz ver) k) n=(n≤(((objCells H i ver).drop off).drop k).length):=rfl
@[simp] theorem ldok_slc (H:List AO) (c:List SV) (m k n:Nat):ldok H (.ptr (.slc c m) k) n=(n≤(c.drop k).length):=rfl
variable (g:Od->SV) (H:List AO)
@[simp ↓] theorem pv1_mov (x:Od):(pv (.mov x) g H).1=(True):=rfl
@[simp ↓] theorem pv2_mov (x:Od):(pv (.mov x) g H).2=g x:=rfl
@[simp ↓] theorem pv1_pick (c:Od) (a:Od) (b:Od):(pv (.pick c a b) g H).1=((g c).isB=true∧(if(g c).bool=true then(g a).isB=true else(g b).isB=true)):=by
 first
 | rfl
 | (apply propext; simp only[pv]; cases (g c).bool<;>simp)
@[simp ↓] theorem pv2_pick (c:Od) (a:Od) (b:Od):(pv (.pick c a b) g H).2=bl (cond (g c).bool (g a).bool (g b).bool):=by
 first
 | rfl
 | (apply propext; simp only[pv]; cases (g c).bool<;>simp)
@[simp ↓] theorem pv1_neg (k:IntKind) (x:Od):(pv (.neg k x) g H).1=((g x).isI k=true):=rfl
@[simp ↓] theorem pv2_neg (k:IntKind) (x:Od):(pv (.neg k x) g H).2=.val (.int k (k.wrap (0-(g x).int))):=rfl
@[simp ↓] theorem pv1_not (x:Od):(pv (.not x) g H).1=((g x).isB=true):=rfl
@[simp ↓] theorem pv2_not (x:Od):(pv (.not x) g H).2=bl (!(g x).bool):=rfl
@[simp ↓] theorem pv1_cvi (k:IntKind) (x:Od):(pv (.cvi k x) g H).1=((g x).isN=true):=rfl
@[simp ↓] theorem pv2_cvi (k:IntKind) (x:Od):(pv (.cvi k x) g H).2=.val (.int k (k.wrap (g x).int)):=rfl
@[simp ↓] theorem pv1_ld1 (p:Od):(pv (.ld1 p) g H).1=((g p).vd=true∧ldok H (g p).ug 1):=rfl
@[simp ↓] theorem pv2_ld1 (p:Od):(pv (.ld1 p) g H).2=ldv H (g p).ug:=rfl
@[simp ↓] theorem pv1_ldn (n:Nat) (p:Od):(pv (.ldn n p) g H).1=((g p).vd=true∧ldok H (g p).ug n∧0<n):=rfl
@[simp ↓] theorem pv2_ldn (n:Nat) (p:Od):(pv (.ldn n p) g H).2=.agg (ldvs H (g p).ug n):=rfl
@[simp ↓] theorem pv1_ia (sz:Nat) (s:Od) (j:Od):(pv (.ia sz s j) g H).1=((g s).vd=true∧(g s).ug.isSl=true∧(g j).isN=true∧0≤(g j).int∧(g j).int<(g s).ug.slen):=rfl
@[simp ↓] theorem pv2_ia (sz:Nat) (s:Od) (j:Od):(pv (.ia sz s j) g H).2=.ptr (g s).ug ((g j).int.toNat*sz):=rfl
@[simp ↓] theorem pv1_ixs (s:Od) (j:Od):(pv (.ixs s j) g H).1=((g s).isS=true∧(g j).isN=true∧0≤(g j).int∧(g j).int<(g s).str.size):=rfl
@[simp ↓] theorem pv2_ixs (s:Od) (j:Od):(pv (.ixs s j) g H).2=.val (.int .u8 ((g s).str.data.toList.getD (g j).int.toNat 0).toNat):=rfl
@[simp ↓] theorem pv1_sl (sz:Nat) (x:Od) (lo:Option Od) (hi:Option Od):(pv (.sl sz x lo hi) g H).1=((g x).vd=true∧(g x).ug.isSl=true∧(g x).ug.szIs sz=true∧bdOf (lo.map g)∧bdOf (hi.map g)∧loOf (lo.map g)≤hiOf (g x).ug.slen (hi.map g)∧hiOf (g x).ug.slen (hi.map g)≤(g x).ug.slen):=rfl
@[simp ↓] theorem pv2_sl (sz:Nat) (x:Od) (lo:Option Od) (hi:Option Od):(pv (.sl sz x lo hi) g H).2=(g x).ug.cut sz (loOf (lo.map g)) (hiOf (g x).ug.slen (hi.map g)):=rfl
@[simp ↓] theorem pv1_sls (x:Od) (lo:Option Od) (hi:Option Od):(pv (.sls x lo hi) g H).1=((g x).isS=true∧bdOf (lo.map g)∧bdOf (hi.map g)∧loOf (lo.map g)≤hiOf (g x).str.size (hi.map g)∧hiOf (g x).str.size (hi.map g)≤(g x).str.size):=rfl
@[simp ↓] theorem pv2_sls (x:Od) (lo:Option Od) (hi:Option Od):(pv (.sls x lo hi) g H).2=st ((g x).str.extract (loOf (lo.map g)) (hiOf (g x).str.size (hi.map g))):=rfl
@[simp ↓] theorem pv1_len (x:Od):(pv (.len x) g H).1=((g x).vd=true∧(g x).ug.isSl=true):=rfl
@[simp ↓] theorem pv2_len (x:Od):(pv (.len x) g H).2=i64 (g x).ug.slen:=rfl
@[simp ↓] theorem pv1_lens (x:Od):(pv (.lens x) g H).1=((g x).isS=true):=rfl
@[simp ↓] theorem pv2_lens (x:Od):(pv (.lens x) g H).2=i64 (g x).str.size:=rfl
@[simp ↓] theorem pv1_mkf (f:Fn) (first:List Od) (cap:List Od):(pv (.mkf f first cap) g H).1=(True):=rfl
@[simp ↓] theorem pv2_mkf (f:Fn) (first:List Od) (cap:List Od):(pv (.mkf f first cap) g H).2=.fn f (first.map g) (cap.map g):=rfl
@[simp ↓] theorem pv1_mki (t:TypeId) (x:Od):(pv (.mki t x) g H).1=(True):=rfl
@[simp ↓] theorem pv2_mki (t:TypeId) (x:Od):(pv (.mki t x) g H).2=.ifc t (g x):=rfl
@[simp ↓] theorem pv1_kro (T:TypeId) (sz len:Nat) (z:List SV) (parts:List (Nat×SV)):(pv (.kro T sz len z parts) g H).1=True:=rfl
@[simp ↓] theorem pv2_kro (T:TypeId) (sz len:Nat) (z:List SV) (parts:List (Nat×SV)):(pv (.kro T sz len z parts) g H).2=.slc (fillS (List.replicate len z).flatten (parts.map fun p=>(p.1*sz,p.2))) len:=rfl
@[simp ↓] theorem pv1_bld (z:List SV) (parts:List (Nat×Nat×Od)):(pv (.bld z parts) g H).1=(∀ p∈parts.map (fun p=>(p.1,p.2.1,g p.2.2)),partOk p.2.1 p.2.2∧p.1+p.2.1≤z.length):=by
 first
 | rfl
 | (apply propext; simp only[pv,List.forall_mem_map])
@[simp ↓] theorem pv2_bld (z:List SV) (parts:List (Nat×Nat×Od)):(pv (.bld z parts) g H).2=.agg (fillS z (parts.map fun p=>(p.1,g p.2.2))):=by
 first
 | rfl
 | (apply propext; simp only[pv,List.forall_mem_map])
def SV.isPt:SV->Bool
 | .ptr _ _=>true
 | _=>false
def SV.isAg:SV->Bool
 | .agg _=>true
 | _=>false
def SV.isTu:SV->Bool
 | .tup _=>true
 | _=>false
def SV.isNc:SV->Bool
 | .ptr _ _=>true
 | .fn (.func _) _ _=>true
 | _=>false
def SV.els':SV->List SV
 | .agg l=>l
 | .tup l=>l
 | _=>[]
def SV.mv (off:Nat):SV->SV
 | .ptr s k=>.ptr s (k+off)
 | _=>.any
@[simp ↓] theorem pv1_fa (off:Nat) (p:Od):(pv (.fa off p) g H).1=((g p).ug.isPt=true∧(g p).vd=true):=by
 cases hu:(g p).ug<;>simp[pv,hu,SV.isPt,SV.isAg,SV.isTu,SV.els',SV.mv]
@[simp ↓] theorem pv2_fa (off:Nat) (p:Od) (h:(g p).ug.isPt=true):(pv (.fa off p) g H).2=(g p).ug.mv off:=by
 cases hu:(g p).ug<;>simp[pv,hu,SV.isPt,SV.isAg,SV.isTu,SV.els',SV.mv]at h ⊢
@[simp ↓] theorem pv1_fld1 (off:Nat) (x:Od):(pv (.fld1 off x) g H).1=((g x).ug.isAg=true∧(g x).vd=true∧off<(g x).ug.els'.length):=by
 cases hu:(g x).ug<;>simp[pv,hu,SV.isPt,SV.isAg,SV.isTu,SV.els',SV.mv]
@[simp ↓] theorem pv2_fld1 (off:Nat) (x:Od) (h:(g x).ug.isAg=true):(pv (.fld1 off x) g H).2=(g x).ug.els'.getD off .any:=by
 cases hu:(g x).ug<;>simp[pv,hu,SV.isPt,SV.isAg,SV.isTu,SV.els',SV.mv]at h ⊢
@[simp ↓] theorem pv1_iap (len:Nat) (sz:Nat) (p:Od) (j:Od):(pv (.iap len sz p j) g H).1=((g p).ug.isPt=true∧(g p).vd=true∧(g j).isN=true∧0≤(g j).int∧(g j).int<len):=by
 cases hu:(g p).ug<;>simp[pv,hu,SV.isPt,SV.isAg,SV.isTu,SV.els',SV.mv]
@[simp ↓] theorem pv2_iap (len:Nat) (sz:Nat) (p:Od) (j:Od) (h:(g p).ug.isPt=true):(pv (.iap len sz p j) g H).2=(g p).ug.mv ((g j).int.toNat*sz):=by
 cases hu:(g p).ug<;>simp[pv,hu,SV.isPt,SV.isAg,SV.isTu,SV.els',SV.mv]at h ⊢
@[simp ↓] theorem pv1_ixa (len:Nat) (sz:Nat) (one:Bool) (x:Od) (j:Od):(pv (.ixa len sz one x j) g H).1=((g x).ug.isAg=true∧(g x).vd=true∧(g j).isN=true∧0≤(g j).int∧(g j).int<len∧(g x).ug.els'.length=len*sz∧(one=true->sz=1)):=by
 cases hu:(g x).ug<;>simp[pv,hu,SV.isPt,SV.isAg,SV.isTu,SV.els',SV.mv]
@[simp ↓] theorem pv2_ixa (len:Nat) (sz:Nat) (one:Bool) (x:Od) (j:Od) (h:(g x).ug.isAg=true):(pv (.ixa len sz one x j) g H).2=if one=true then(g x).ug.els'.getD (g j).int.toNat .any else .agg (((g x).ug.els'.drop ((g j).int.toNat*sz)).take sz):=by
 cases hu:(g x).ug<;>simp[pv,hu,SV.isPt,SV.isAg,SV.isTu,SV.els',SV.mv]at h ⊢
@[simp ↓] theorem pv1_ext (x:Od) (j:Nat):(pv (.ext x j) g H).1=((g x).ug.isTu=true∧(g x).vd=true∧j<(g x).ug.els'.length):=by
 cases hu:(g x).ug<;>simp[pv,hu,SV.isPt,SV.isAg,SV.isTu,SV.els',SV.mv]
@[simp ↓] theorem pv2_ext (x:Od) (j:Nat) (h:(g x).ug.isTu=true):(pv (.ext x j) g H).2=(g x).ug.els'.getD j .any:=by
 cases hu:(g x).ug<;>simp[pv,hu,SV.isPt,SV.isAg,SV.isTu,SV.els',SV.mv]at h ⊢
@[simp ↓] theorem pv1_nck (x:Od):(pv (.nck x) g H).1=((g x).ug.isNc=true∧(g x).vd=true):=by
 cases hu:(g x).ug with
 | fn f a b=>cases f<;>simp[pv,hu,SV.isNc]
 | _=>simp[pv,hu,SV.isNc]
@[simp ↓] theorem pv2_nck (x:Od) (h:(g x).ug.isNc=true):(pv (.nck x) g H).2=(g x).ug:=by
 cases hu:(g x).ug with
 | fn f a b=>rw[hu]at h; cases f<;>simp[pv,hu,SV.isNc]at h ⊢
 | _=>simp[hu,SV.isNc]at h ⊢ <;> simp[pv,hu]
@[simp ↓] theorem pv1_eqf (neg:Bool) (ks:List CK) (x y:Od):(pv (.eqf neg ks x y) g H).1=((g x).ug.isAg=true∧(g y).ug.isAg=true∧(g x).vd=true∧(g y).vd=true∧eqSide ks (g x).ug.els' (g y).ug.els'):=by
 cases hu:(g x).ug<;>cases hv:(g y).ug<;>simp[pv,hu,hv,SV.isAg,SV.els']
@[simp ↓] theorem pv2_eqf (neg:Bool) (ks:List CK) (x y:Od) (h:((g x).ug.isAg&&(g y).ug.isAg)=true):(pv (.eqf neg ks x y) g H).2=bl (if neg=true then !eqAll ks (g x).ug.els' (g y).ug.els' else eqAll ks (g x).ug.els' (g y).ug.els'):=by
 cases hu:(g x).ug<;>cases hv:(g y).ug<;>simp[pv,hu,hv,SV.isAg,SV.els']at h ⊢
@[simp ↓] theorem pv1_bin_add_i (k:IntKind) (x y:Od):(pv (.bin .add (.i k) x y) g H).1=((g x).isI k=true∧(g y).isI k=true):=rfl
@[simp ↓] theorem pv2_bin_add_i (k:IntKind) (x y:Od):(pv (.bin .add (.i k) x y) g H).2=.val (.int k (k.wrap ((g x).int+(g y).int))):=rfl
@[simp ↓] theorem pv1_bin_sub_i (k:IntKind) (x y:Od):(pv (.bin .sub (.i k) x y) g H).1=((g x).isI k=true∧(g y).isI k=true):=rfl
@[simp ↓] theorem pv2_bin_sub_i (k:IntKind) (x y:Od):(pv (.bin .sub (.i k) x y) g H).2=.val (.int k (k.wrap ((g x).int-(g y).int))):=rfl
@[simp ↓] theorem pv1_bin_mul_i (k:IntKind) (x y:Od):(pv (.bin .mul (.i k) x y) g H).1=((g x).isI k=true∧(g y).isI k=true):=rfl
@[simp ↓] theorem pv2_bin_mul_i (k:IntKind) (x y:Od):(pv (.bin .mul (.i k) x y) g H).2=.val (.int k (k.wrap ((g x).int*(g y).int))):=rfl
@[simp ↓] theorem pv1_bin_quo_i (k:IntKind) (x y:Od):(pv (.bin .quo (.i k) x y) g H).1=((g x).isI k=true∧(g y).isI k=true∧(g y).int≠0):=rfl
@[simp ↓] theorem pv2_bin_quo_i (k:IntKind) (x y:Od):(pv (.bin .quo (.i k) x y) g H).2=.val (.int k (k.wrap ((g x).int.tdiv (g y).int))):=rfl
@[simp ↓] theorem pv1_bin_rem_i (k:IntKind) (x y:Od):(pv (.bin .rem (.i k) x y) g H).1=((g x).isI k=true∧(g y).isI k=true∧(g y).int≠0):=rfl
@[simp ↓] theorem pv2_bin_rem_i (k:IntKind) (x y:Od):(pv (.bin .rem (.i k) x y) g H).2=.val (.int k ((g x).int.tmod (g y).int)):=rfl
@[simp ↓] theorem pv1_bin_and_i (k:IntKind) (x y:Od):(pv (.bin .and (.i k) x y) g H).1=((g x).isI k=true∧(g y).isI k=true):=rfl
@[simp ↓] theorem pv2_bin_and_i (k:IntKind) (x y:Od):(pv (.bin .and (.i k) x y) g H).2=.val (.int k (bitsI .and k (g x).int (g y).int)):=rfl
@[simp ↓] theorem pv1_bin_or_i (k:IntKind) (x y:Od):(pv (.bin .or (.i k) x y) g H).1=((g x).isI k=true∧(g y).isI k=true):=rfl
@[simp ↓] theorem pv2_bin_or_i (k:IntKind) (x y:Od):(pv (.bin .or (.i k) x y) g H).2=.val (.int k (bitsI .or k (g x).int (g y).int)):=rfl
@[simp ↓] theorem pv1_bin_xor_i (k:IntKind) (x y:Od):(pv (.bin .xor (.i k) x y) g H).1=((g x).isI k=true∧(g y).isI k=true):=rfl
@[simp ↓] theorem pv2_bin_xor_i (k:IntKind) (x y:Od):(pv (.bin .xor (.i k) x y) g H).2=.val (.int k (bitsI .xor k (g x).int (g y).int)):=rfl
@[simp ↓] theorem pv1_bin_andNot_i (k:IntKind) (x y:Od):(pv (.bin .andNot (.i k) x y) g H).1=((g x).isI k=true∧(g y).isI k=true):=rfl
@[simp ↓] theorem pv2_bin_andNot_i (k:IntKind) (x y:Od):(pv (.bin .andNot (.i k) x y) g H).2=.val (.int k (bitsI .andNot k (g x).int (g y).int)):=rfl
@[simp ↓] theorem pv1_bin_eql_i (k:IntKind) (x y:Od):(pv (.bin .eql (.i k) x y) g H).1=((g x).isI k=true∧(g y).isI k=true):=rfl
@[simp ↓] theorem pv2_bin_eql_i (k:IntKind) (x y:Od):(pv (.bin .eql (.i k) x y) g H).2=bl (decide ((g x).int=(g y).int)):=rfl
@[simp ↓] theorem pv1_bin_neq_i (k:IntKind) (x y:Od):(pv (.bin .neq (.i k) x y) g H).1=((g x).isI k=true∧(g y).isI k=true):=rfl
@[simp ↓] theorem pv2_bin_neq_i (k:IntKind) (x y:Od):(pv (.bin .neq (.i k) x y) g H).2=bl (!decide ((g x).int=(g y).int)):=rfl
@[simp ↓] theorem pv1_bin_lss_i (k:IntKind) (x y:Od):(pv (.bin .lss (.i k) x y) g H).1=((g x).isI k=true∧(g y).isI k=true):=rfl
@[simp ↓] theorem pv2_bin_lss_i (k:IntKind) (x y:Od):(pv (.bin .lss (.i k) x y) g H).2=bl (decide ((g x).int<(g y).int)):=rfl
@[simp ↓] theorem pv1_bin_leq_i (k:IntKind) (x y:Od):(pv (.bin .leq (.i k) x y) g H).1=((g x).isI k=true∧(g y).isI k=true):=rfl
@[simp ↓] theorem pv2_bin_leq_i (k:IntKind) (x y:Od):(pv (.bin .leq (.i k) x y) g H).2=bl (decide ((g x).int≤(g y).int)):=rfl
@[simp ↓] theorem pv1_bin_gtr_i (k:IntKind) (x y:Od):(pv (.bin .gtr (.i k) x y) g H).1=((g x).isI k=true∧(g y).isI k=true):=rfl
@[simp ↓] theorem pv2_bin_gtr_i (k:IntKind) (x y:Od):(pv (.bin .gtr (.i k) x y) g H).2=bl (decide ((g y).int<(g x).int)):=rfl
@[simp ↓] theorem pv1_bin_geq_i (k:IntKind) (x y:Od):(pv (.bin .geq (.i k) x y) g H).1=((g x).isI k=true∧(g y).isI k=true):=rfl
@[simp ↓] theorem pv2_bin_geq_i (k:IntKind) (x y:Od):(pv (.bin .geq (.i k) x y) g H).2=bl (decide ((g y).int≤(g x).int)):=rfl
@[simp ↓] theorem pv1_bin_eql_s (x y:Od):(pv (.bin .eql .s x y) g H).1=((g x).isS=true∧(g y).isS=true):=rfl
@[simp ↓] theorem pv2_bin_eql_s (x y:Od):(pv (.bin .eql .s x y) g H).2=bl (decide ((g x).str.data.toList=(g y).str.data.toList)):=rfl
@[simp ↓] theorem pv1_bin_neq_s (x y:Od):(pv (.bin .neq .s x y) g H).1=((g x).isS=true∧(g y).isS=true):=rfl
@[simp ↓] theorem pv2_bin_neq_s (x y:Od):(pv (.bin .neq .s x y) g H).2=bl (!decide ((g x).str.data.toList=(g y).str.data.toList)):=rfl
@[simp ↓] theorem pv1_bin_add_s (x y:Od):(pv (.bin .add .s x y) g H).1=((g x).isS=true∧(g y).isS=true∧(g x).str.size+(g y).str.size≤9223372036854775807):=rfl
@[simp ↓] theorem pv2_bin_add_s (x y:Od):(pv (.bin .add .s x y) g H).2=st ((g x).str++(g y).str):=rfl
@[simp ↓] theorem pv1_bin_eql_b (x y:Od):(pv (.bin .eql .b x y) g H).1=((g x).isB=true∧(g y).isB=true):=rfl
@[simp ↓] theorem pv2_bin_eql_b (x y:Od):(pv (.bin .eql .b x y) g H).2=bl ((g x).bool==(g y).bool):=rfl
@[simp ↓] theorem pv1_bin_neq_b (x y:Od):(pv (.bin .neq .b x y) g H).1=((g x).isB=true∧(g y).isB=true):=rfl
@[simp ↓] theorem pv2_bin_neq_b (x y:Od):(pv (.bin .neq .b x y) g H).2=bl ((g x).bool != (g y).bool):=rfl
@[simp ↓] theorem pv1_gix (k len sz:Nat) (cs:List SV) (j:Od):(pv (.gix k len sz cs j) g H).1=((g j).isN=true∧0≤(g j).int∧(g j).int<len):=rfl
@[simp ↓] theorem pv2_gix (k len sz:Nat) (cs:List SV) (j:Od):(pv (.gix k len sz cs j) g H).2=.ptr (.slc cs cs.length) ((g j).int.toNat*sz):=rfl
@[simp ↓] theorem pv1_ifn (neg right:Bool) (x:Od):(pv (.ifn neg right x) g H).1=((g x).vd=true∧(g x).ug.isIf=true):=rfl
@[simp ↓] theorem pv2_ifn (neg right:Bool) (x:Od):(pv (.ifn neg right x) g H).2=bl (if(g x).ug.ifNil=true then !neg else neg):=rfl
@[simp ↓] theorem pv1_tas (t:TypeId) (ok:Bool) (z:SV) (x:Od):(pv (.tas t ok z x) g H).1=((g x).vd=true∧(g x).ug.isIf=true∧(ok=true∨(g x).ug.ifIs t=true)):=rfl
@[simp ↓] theorem pv2_tas (t:TypeId) (ok:Bool) (z:SV) (x:Od):(pv (.tas t ok z x) g H).2=if ok=true then(if(g x).ug.ifIs t=true then .tup [(g x).ug.ifVal,bl true]else .tup [z,bl false])else(g x).ug.ifVal:=rfl
@[simp ↓] theorem pv_lkp (kk:KK) (ok:Bool) (z:SV) (m k:Od):pv (.lkp kk ok z m k) g H=(match (g m).ug.mapOf H with
 | some x=>((g m).vd=true∧(g k).isK kk=true∧x.1.all kk.is=true∧(∀ v∈(g k).key kk::x.1,kk.knows v),
  if ok=true then .tup [(lkm ((g k).key kk) x.1 x.2).getD z,bl (lkm ((g k).key kk) x.1 x.2).isSome]else(lkm ((g k).key kk) x.1 x.2).getD z)
 | none=>(False,.any)):=rfl
@[simp ↓] theorem pv_iav (sz:Nat) (s j:Od):pv (.iav sz s j) g H=(match (g s).ug with
 | .val (.slice (some a) len _)=>((g s).vd=true∧(g j).isN=true∧0≤(g j).int∧(g j).int<len,.val (.pointer (some (a.add ((g j).int.toNat*sz)))))
 | _=>(False,.any)):=rfl
@[simp ↓] theorem pv_lnv (x:Od):pv (.lnv x) g H=(match (g x).ug with
 | .val (.slice _ len _)=>((g x).vd=true,i64 len)
 | _=>(False,.any)):=rfl
@[simp ↓] theorem pv1_bys (x:Od):(pv (.bys x) g H).1=((g x).vd=true∧(g x).ug.isSl=true∧bysB ((g x).ug.row H) (g x).ug.slen=true):=rfl
@[simp ↓] theorem pv2_bys (x:Od):(pv (.bys x) g H).2=.val (.string (bysS (((g x).ug.row H).take (g x).ug.slen))):=rfl
@[simp ↓] theorem pv1_no:(pv .no g H).1=False:=rfl
@[simp ↓] theorem pv2_no:(pv .no g H).2=.any:=rfl
@[simp ↓] theorem pv_bin_sh (op:BinOp) (k yk:IntKind) (x y:Od):pv (.bin op (.sh k yk) x y) g H=pbin op (.sh k yk) (g x) (g y):=rfl
@[simp ↓] theorem pv_bin_pnil (op:BinOp) (r:Bool) (x y:Od):pv (.bin op (.pnil r) x y) g H=pbin op (.pnil r) (g x) (g y):=rfl
@[simp] theorem pbin_shl (k yk:IntKind) (x y:SV):pbin .shl (.sh k yk) x y=(x.isI k=true∧y.isI yk=true∧0≤y.int,.val (.int k (k.wrap (x.int*2 ^ (min y.int.toNat k.bits))))):=rfl
@[simp] theorem pbin_shr (k yk:IntKind) (x y:SV):pbin .shr (.sh k yk) x y=(x.isI k=true∧y.isI yk=true∧0≤y.int,.val (.int k (x.int.fdiv (2 ^ (min y.int.toNat k.bits))))):=rfl
@[simp] theorem pbin_pnil (op:BinOp) (r:Bool) (x y:SV):pbin op (.pnil r) x y=(match op,(if r=true then x else y).ug with
 | .eql,.ptr _ _=>((if r=true then x else y).vd=true,bl false)
 | .neq,.ptr _ _=>((if r=true then x else y).vd=true,bl true)
 | .eql,.val (.pointer none)=>((if r=true then x else y).vd=true,bl true)
 | .neq,.val (.pointer none)=>((if r=true then x else y).vd=true,bl false)
 | _,_=>(False,.any)):=rfl
end
@[simp] theorem env_get_cons (e:Env) (k t:Nat) (v:SV):Env.get ((k,v)::e) t=if k=t then v else Env.get e t:=rfl
@[simp] theorem env_get_nil (t:Nat):Env.get [] t=.any:=rfl
@[simp] theorem env_ev_t (e:Env) (n:Nat):Env.ev e (.t n)=e.get n:=rfl
@[simp] theorem env_ev_c (e:Env) (s:SV):Env.ev e (.c s)=s:=rfl
@[simp] theorem env_put_some (e:Env) (d:Nat) (v:SV):Env.put e (some d) v=(d,v)::e:=rfl
@[simp] theorem env_put_none (e:Env) (v:SV):Env.put e none v=e:=rfl
@[simp] theorem env_keep_nil (e:Env):Env.keep e []=[]:=rfl
@[simp] theorem env_keep_cons (e:Env) (k:Nat) (r:List Nat):Env.keep e (k::r)=(k,e.get k)::Env.keep e r:=rfl
@[simp] theorem argsEnv_eq (l:List SV):argsEnv l=(List.range l.length).zip l:=rfl
attribute [simp] List.range_succ val_i64 isI_i64 int_i64 isN_i64 isB_bl bool_bl ug_i64 vd_i64 ug_bl vd_bl
@[simp] theorem vd_any  : SV.vd .any=true:=rfl
@[simp] theorem ug_any  : SV.ug .any=.any:=rfl
@[simp] theorem isCell_any  : SV.isCell .any=false:=rfl
@[simp] theorem flat_any  : SV.flat .any=[.any]:=rfl
@[simp] theorem isPt_any  : SV.isPt .any=false:=rfl
@[simp] theorem isAg_any  : SV.isAg .any=false:=rfl
@[simp] theorem isTu_any  : SV.isTu .any=false:=rfl
@[simp] theorem vd_val (v:Value):SV.vd (.val v)=true:=rfl
@[simp] theorem ug_val (v:Value):SV.ug (.val v)=(.val v):=rfl
@[simp] theorem flat_val (v:Value):SV.flat (.val v)=[(.val v)]:=rfl
@[simp] theorem isPt_val (v:Value):SV.isPt (.val v)=false:=rfl
@[simp] theorem isAg_val (v:Value):SV.isAg (.val v)=false:=rfl
@[simp] theorem isTu_val (v:Value):SV.isTu (.val v)=false:=rfl
@[simp] theorem isCell_i64 (n:Int):SV.isCell (i64 n)=true:=rfl
@[simp] theorem flat_i64 (n:Int):SV.flat (i64 n)=[(i64 n)]:=rfl
@[simp] theorem isPt_i64 (n:Int):SV.isPt (i64 n)=false:=rfl
@[simp] theorem isAg_i64 (n:Int):SV.isAg (i64 n)=false:=rfl
@[simp] theorem isTu_i64 (n:Int):SV.isTu (i64 n)=false:=rfl
@[simp] theorem isCell_bl (b:Bool):SV.isCell (bl b)=true:=rfl
@[simp] theorem flat_bl (b:Bool):SV.flat (bl b)=[(bl b)]:=rfl
@[simp] theorem isPt_bl (b:Bool):SV.isPt (bl b)=false:=rfl
@[simp] theorem isAg_bl (b:Bool):SV.isAg (bl b)=false:=rfl
@[simp] theorem isTu_bl (b:Bool):SV.isTu (bl b)=false:=rfl
@[simp] theorem vd_st (s:ByteArray):SV.vd (st s)=true:=rfl
@[simp] theorem ug_st (s:ByteArray):SV.ug (st s)=(st s):=rfl
@[simp] theorem isCell_st (s:ByteArray):SV.isCell (st s)=true:=rfl
@[simp] theorem flat_st (s:ByteArray):SV.flat (st s)=[(st s)]:=rfl
@[simp] theorem isPt_st (s:ByteArray):SV.isPt (st s)=false:=rfl
@[simp] theorem isAg_st (s:ByteArray):SV.isAg (st s)=false:=rfl
@[simp] theorem isTu_st (s:ByteArray):SV.isTu (st s)=false:=rfl
@[simp] theorem vd_slc (c:List SV) (n:Nat):SV.vd (.slc c n)=true:=rfl
@[simp] theorem ug_slc (c:List SV) (n:Nat):SV.ug (.slc c n)=(.slc c n):=rfl
@[simp] theorem isCell_slc (c:List SV) (n:Nat):SV.isCell (.slc c n)=true:=rfl
@[simp] theorem flat_slc (c:List SV) (n:Nat):SV.flat (.slc c n)=[(.slc c n)]:=rfl
@[simp] theorem isPt_slc (c:List SV) (n:Nat):SV.isPt (.slc c n)=false:=rfl
@[simp] theorem isAg_slc (c:List SV) (n:Nat):SV.isAg (.slc c n)=false:=rfl
@[simp] theorem isTu_slc (c:List SV) (n:Nat):SV.isTu (.slc c n)=false:=rfl
@[simp] theorem vd_own (i off len sz ver:Nat):SV.vd (.own i off len sz ver)=true:=rfl
@[simp] theorem ug_own (i off len sz ver:Nat):SV.ug (.own i off len sz ver)=(.own i off len sz ver):=rfl
@[simp] theorem isCell_own (i off len sz ver:Nat):SV.isCell (.own i off len sz ver)=true:=rfl
@[simp] theorem flat_own (i off len sz ver:Nat):SV.flat (.own i off len sz ver)=[(.own i off len sz ver)]:=rfl
@[simp] theorem isPt_own (i off len sz ver:Nat):SV.isPt (.own i off len sz ver)=false:=rfl
@[simp] theorem isAg_own (i off len sz ver:Nat):SV.isAg (.own i off len sz ver)=false:=rfl
@[simp] theorem isTu_own (i off len sz ver:Nat):SV.isTu (.own i off len sz ver)=false:=rfl
@[simp] theorem vd_ptr (s:SV) (k:Nat):SV.vd (.ptr s k)=true:=rfl
@[simp] theorem ug_ptr (s:SV) (k:Nat):SV.ug (.ptr s k)=(.ptr s k):=rfl
@[simp] theorem isCell_ptr (s:SV) (k:Nat):SV.isCell (.ptr s k)=true:=rfl
@[simp] theorem flat_ptr (s:SV) (k:Nat):SV.flat (.ptr s k)=[(.ptr s k)]:=rfl
@[simp] theorem isPt_ptr (s:SV) (k:Nat):SV.isPt (.ptr s k)=true:=rfl
@[simp] theorem isAg_ptr (s:SV) (k:Nat):SV.isAg (.ptr s k)=false:=rfl
@[simp] theorem isTu_ptr (s:SV) (k:Nat):SV.isTu (.ptr s k)=false:=rfl
@[simp] theorem vd_agg (l:List SV):SV.vd (.agg l)=true:=rfl
@[simp] theorem ug_agg (l:List SV):SV.ug (.agg l)=(.agg l):=rfl
@[simp] theorem isCell_agg (l:List SV):SV.isCell (.agg l)=false:=rfl
@[simp] theorem isPt_agg (l:List SV):SV.isPt (.agg l)=false:=rfl
@[simp] theorem isAg_agg (l:List SV):SV.isAg (.agg l)=true:=rfl
@[simp] theorem isTu_agg (l:List SV):SV.isTu (.agg l)=false:=rfl
@[simp] theorem vd_tup (l:List SV):SV.vd (.tup l)=true:=rfl
@[simp] theorem ug_tup (l:List SV):SV.ug (.tup l)=(.tup l):=rfl
@[simp] theorem isCell_tup (l:List SV):SV.isCell (.tup l)=false:=rfl
@[simp] theorem flat_tup (l:List SV):SV.flat (.tup l)=[(.tup l)]:=rfl
@[simp] theorem isPt_tup (l:List SV):SV.isPt (.tup l)=false:=rfl
@[simp] theorem isAg_tup (l:List SV):SV.isAg (.tup l)=false:=rfl
@[simp] theorem isTu_tup (l:List SV):SV.isTu (.tup l)=true:=rfl
@[simp] theorem vd_fn (f:Fn) (a b:List SV):SV.vd (.fn f a b)=true:=rfl
@[simp] theorem ug_fn (f:Fn) (a b:List SV):SV.ug (.fn f a b)=(.fn f a b):=rfl
@[simp] theorem isCell_fn (f:Fn) (a b:List SV):SV.isCell (.fn f a b)=true:=rfl
@[simp] theorem flat_fn (f:Fn) (a b:List SV):SV.flat (.fn f a b)=[(.fn f a b)]:=rfl
@[simp] theorem isPt_fn (f:Fn) (a b:List SV):SV.isPt (.fn f a b)=false:=rfl
@[simp] theorem isAg_fn (f:Fn) (a b:List SV):SV.isAg (.fn f a b)=false:=rfl
@[simp] theorem isTu_fn (f:Fn) (a b:List SV):SV.isTu (.fn f a b)=false:=rfl
@[simp] theorem vd_ifc (t:TypeId) (x:SV):SV.vd (.ifc t x)=true:=rfl
@[simp] theorem ug_ifc (t:TypeId) (x:SV):SV.ug (.ifc t x)=(.ifc t x):=rfl
@[simp] theorem isCell_ifc (t:TypeId) (x:SV):SV.isCell (.ifc t x)=true:=rfl
@[simp] theorem flat_ifc (t:TypeId) (x:SV):SV.flat (.ifc t x)=[(.ifc t x)]:=rfl
@[simp] theorem isPt_ifc (t:TypeId) (x:SV):SV.isPt (.ifc t x)=false:=rfl
@[simp] theorem isAg_ifc (t:TypeId) (x:SV):SV.isAg (.ifc t x)=false:=rfl
@[simp] theorem isTu_ifc (t:TypeId) (x:SV):SV.isTu (.ifc t x)=false:=rfl
@[simp] theorem isCell_val (v:Value):SV.isCell (.val v)=v.oneCell':=rfl
@[simp] theorem flat_agg (l:List SV):SV.flat (.agg l)=l:=rfl
@[simp] theorem vd_gd (b:Bool) (x:SV):SV.vd (.gd b x)=(b&&x.vd):=rfl
@[simp] theorem ug_gd (b:Bool) (x:SV):SV.ug (.gd b x)=x.ug:=rfl
@[simp] theorem isI_gd (k:IntKind) (b:Bool) (x:SV):SV.isI k (.gd b x)=(b&&x.isI k):=rfl
@[simp] theorem isN_gd (b:Bool) (x:SV):SV.isN (.gd b x)=(b&&x.isN):=rfl
@[simp] theorem isB_gd (b:Bool) (x:SV):SV.isB (.gd b x)=(b&&x.isB):=rfl
@[simp] theorem isS_gd (b:Bool) (x:SV):SV.isS (.gd b x)=(b&&x.isS):=rfl
@[simp] theorem int_gd (b:Bool) (x:SV):SV.int (.gd b x)=x.int:=rfl
@[simp] theorem bool_gd (b:Bool) (x:SV):SV.bool (.gd b x)=x.bool:=rfl
@[simp] theorem str_gd (b:Bool) (x:SV):SV.str (.gd b x)=x.str:=rfl
@[simp] theorem isI_val' (k k':IntKind) (n:Int):SV.isI k (.val (.int k' n))=decide (k'=k):=rfl
@[simp] theorem isN_val' (k':IntKind) (n:Int):SV.isN (.val (.int k' n))=true:=rfl
@[simp] theorem int_val' (k':IntKind) (n:Int):SV.int (.val (.int k' n))=n:=rfl
@[simp] theorem isB_val' (b:Bool):SV.isB (.val (.bool b))=true:=rfl
@[simp] theorem bool_val' (b:Bool):SV.bool (.val (.bool b))=b:=rfl
@[simp] theorem isS_st (s:ByteArray):SV.isS (st s)=true:=rfl
@[simp] theorem str_st (s:ByteArray):SV.str (st s)=s:=rfl
@[simp] theorem on_bl (want b:Bool):SV.on want (bl b)=(b==want):=rfl
@[simp] theorem on_gd (want b:Bool) (x:SV):SV.on want (.gd b x)=(b&&x.on want):=rfl
@[simp] theorem bish_bl (b:Bool):SV.bish (bl b)=true:=rfl
@[simp] theorem bish_gd (b:Bool) (x:SV):SV.bish (.gd b x)=x.bish:=rfl
@[simp] theorem mv_ptr (off:Nat) (s:SV) (k:Nat):SV.mv off (.ptr s k)=.ptr s (k+off):=rfl
@[simp] theorem els_agg (l:List SV):SV.els' (.agg l)=l:=rfl
@[simp] theorem els_tup (l:List SV):SV.els' (.tup l)=l:=rfl
@[simp] theorem isNc_ptr (s:SV) (k:Nat):SV.isNc (.ptr s k)=true:=rfl
@[simp] theorem isNc_fn (f:FuncId) (a b:List SV):SV.isNc (.fn (.func f) a b)=true:=rfl
@[simp] theorem slen_slc (c:List SV) (n:Nat):SV.slen (.slc c n)=n:=rfl
@[simp] theorem slen_own (i off len sz ver:Nat):SV.slen (.own i off len sz ver)=len:=rfl
@[simp] theorem isSl_slc (c:List SV) (n:Nat):SV.isSl (.slc c n)=true:=rfl
@[simp] theorem isSl_own (i off len sz ver:Nat):SV.isSl (.own i off len sz ver)=true:=rfl
@[simp] theorem row_slc (H:List AO) (c:List SV) (n:Nat):SV.row H (.slc c n)=c:=rfl
@[simp] theorem row_own (H:List AO) (i off len sz ver:Nat):SV.row H (.own i off len sz ver)=(objCells H i ver).drop off:=rfl
@[simp] theorem at_ptr (H:List AO) (s:SV) (k:Nat):SV.at H (.ptr s k)=(s.row H).drop k:=rfl
@[simp] theorem els_eq (H:List AO) (sz:Nat) (s:SV):SV.els H sz s=(s.row H).take (s.slen*sz):=rfl
@[simp] theorem isNil_val:SV.isNil (.val (.slice none 0 0))=true:=rfl
@[simp] theorem szIs_own (sz i off len s ver:Nat):SV.szIs sz (.own i off len s ver)=(s==sz):=rfl
@[simp] theorem szIs_slc (sz:Nat) (c:List SV) (n:Nat):SV.szIs sz (.slc c n)=true:=rfl
@[simp] theorem cut_slc (sz l h:Nat) (cs:List SV) (n:Nat):SV.cut sz l h (.slc cs n)=.slc ((cs.drop (l*sz)).take ((h-l)*sz)) (h-l):=rfl
@[simp] theorem cut_own (sz l h i off n s ver:Nat):SV.cut sz l h (.own i off n s ver)=.own i (off+l*sz) (h-l) s ver:=rfl
@[simp] theorem loOf_some (x:SV):loOf (some x)=x.int.toNat:=rfl
@[simp] theorem loOf_none:loOf none=0:=rfl
@[simp] theorem hiOf_some (n:Nat) (x:SV):hiOf n (some x)=x.int.toNat:=rfl
@[simp] theorem hiOf_none (n:Nat):hiOf n none=n:=rfl
@[simp] theorem bdOf_some (x:SV):bdOf (some x)=(x.isN=true∧0≤x.int):=rfl
@[simp] theorem bdOf_none:bdOf none=True:=rfl
@[simp] theorem partOk_agg (n:Nat) (l:List SV):partOk n (.agg l)=(l.length=n):=by simp[partOk]
@[simp] theorem partOk_i64 (n:Nat) (k:Int):partOk n (i64 k)=(n=1):=by
 show(n=1∧(i64 k).isCell=true∧true=true)=_
 simp
@[simp] theorem partOk_st (n:Nat) (k:ByteArray):partOk n (st k)=(n=1):=by
 show(n=1∧(st k).isCell=true∧true=true)=_
 simp
@[simp] theorem partOk_slc (n:Nat) (c:List SV) (k:Nat):partOk n (.slc c k)=(n=1):=by simp[partOk,SV.ug,SV.vd,SV.isCell]
@[simp] theorem partOk_own (n i off len sz ver:Nat):partOk n (.own i off len sz ver)=(n=1):=by simp[partOk,SV.ug,SV.vd,SV.isCell]
@[simp] theorem partOk_gd (n:Nat) (x:SV):partOk n (.gd true x)=partOk n x:=by simp[partOk,SV.ug,SV.vd]
@[simp] theorem fillS_nil (z:List SV):fillS z []=z:=rfl
@[simp] theorem fillS_cons (z:List SV) (off:Nat) (v:SV) (r:List (Nat×SV)):fillS z ((off,v)::r)=fillS (z.take off++v.ug.flat++z.drop (off+v.ug.flat.length)) r:=rfl
@[simp] theorem cellsOk_nil:cellsOk []=True:=by simp[cellsOk]
@[simp] theorem cellsOk_cons (s:SV) (l:List SV):cellsOk (s::l)=(s.isCell=true∧cellsOk l):=by simp[cellsOk]
@[simp] theorem cellsOk_append (a b:List SV):cellsOk (a++b)=(cellsOk a∧cellsOk b):=by
 apply propext; constructor
 · intro h; exact⟨fun s hs=>h s (by simp[hs]),fun s hs=>h s (by simp[hs])⟩
 · rintro⟨h1,h2⟩ s hs; rcases List.mem_append.1 hs with h | h
   · exact h1 s h
   · exact h2 s h
def ints (l:List Int):List SV:=l.map i64
@[simp] theorem cellsOk_ints (l:List Int):cellsOk (ints l)=True:=by
 simp only[cellsOk,ints,List.mem_map,eq_iff_iff,iff_true]; rintro s ⟨n,_,rfl⟩; rfl
@[simp] theorem ints_length (l:List Int):(ints l).length=l.length:=by simp[ints]
attribute [simp] objCells_new objCells_new0 setObj_new setObj_new0
@[simp] theorem objCells_hit (o:AO) (r:List AO) (ver:Nat):objCells (o::r) 0 ver=if(o.live&&o.ver==ver)=true then o.cells else []:=by simp[objCells]
@[simp] theorem objCells_next (o:AO) (r:List AO) (k ver:Nat):objCells (o::r) (k+1) ver=objCells r k ver:=by simp[objCells]
@[simp] theorem setObj_hit (o:AO) (r:List AO) (f:AO->AO):setObj (o::r) 0 f=f o::r:=by simp[setObj]
@[simp] theorem setObj_next (o:AO) (r:List AO) (k:Nat) (f:AO->AO):setObj (o::r) (k+1) f=o::setObj r k f:=by
 simp only[setObj,List.getElem?_cons_succ]; cases r[k]? <;> simp
@[simp] theorem objIs_new (H L:List AO) (k ver:Nat) (T:TypeId) (m:Nat):objIs (H++L) (H.length+k) ver T m=objIs L k ver T m:=by
 unfold objIs; rw[List.getElem?_append_right (by omega)]; simp
@[simp] theorem objIs_new0 (H L:List AO) (ver:Nat) (T:TypeId) (m:Nat):objIs (H++L) H.length ver T m=objIs L 0 ver T m:=objIs_new H L 0 ver T m
@[simp] theorem objIs_hit (o:AO) (r:List AO) (ver:Nat) (T:TypeId) (m:Nat):objIs (o::r) 0 ver T m=(o.live=true∧o.ver=ver∧o.ty=T∧o.cells.length=m):=by simp[objIs]
@[simp] theorem objIs_next (o:AO) (r:List AO) (k ver:Nat) (T:TypeId) (m:Nat):objIs (o::r) (k+1) ver T m=objIs r k ver T m:=by simp[objIs]
attribute [simp] AO.put AO.grow eqSide eqAll SV.under SV.underL keptO keptOk placeOf
@[simp] theorem under_i64 (n:Nat) (k:Int):SV.under n (i64 k)=true:=rfl
@[simp] theorem under_bl (n:Nat) (b:Bool):SV.under n (bl b)=true:=rfl
@[simp] theorem under_st (n:Nat) (s:ByteArray):SV.under n (st s)=true:=rfl
@[simp] theorem underL_ints (n:Nat) (l:List Int):SV.underL n (ints l)=true:=by
 rw[SV.underL_iff]; simp only[ints,List.mem_map]; rintro s ⟨k,_,rfl⟩; rfl
@[simp] theorem fin_normal (n0:Nat) (rs:List RS) (r:SV) (H':List AO) (env:Env) (H1:List AO):Ab.Fin n0 rs (.ret r) H' .normal env H1=((∀ s∈rs,s.side env H1)∧Cv n0 (resV env H1 rs) H1 r H'):=rfl
@[simp] theorem fin_ret (n0:Nat) (rs:List RS) (r:SV) (H':List AO) (env:Env) (H1:List AO):Ab.Fin n0 rs (.ret r) H' .ret env H1=((∀ s∈rs,s.side env H1)∧Cv n0 (resV env H1 rs) H1 r H'):=rfl
@[simp] theorem finP_normal (n0:Nat) (rs:List RS) (Pt:Out->List AO->Prop) (env:Env) (H1:List AO):Ab.FinP n0 rs Pt .normal env H1=((∀ s∈rs,s.side env H1)∧FinQ n0 Pt (resV env H1 rs) H1):=rfl
@[simp] theorem finP_ret (n0:Nat) (rs:List RS) (Pt:Out->List AO->Prop) (env:Env) (H1:List AO):Ab.FinP n0 rs Pt .ret env H1=((∀ s∈rs,s.side env H1)∧FinQ n0 Pt (resV env H1 rs) H1):=rfl
@[congr] theorem FinQ_congr {n0:Nat} {Pt:Out->List AO->Prop} {v v':SV} {H H':List AO} (h:Ev v=v') (h1:Ev H=H'):FinQ n0 Pt v H=FinQ n0 Pt v' H':=by rw[Ev_to h,Ev_to h1]
@[simp] theorem fin_pan (n0:Nat) (rs:List RS) (x y:SV) (H':List AO) (env:Env) (H1:List AO):Ab.Fin n0 rs (.pan y) H' (.panic x) env H1=Cv n0 x H1 y H':=rfl
attribute [simp] RS.side RS.ev resV
theorem cv_fz {n0:Nat} {H L:List AO} {r r1:SV} (d:Nat) (hcl:closed H) (hn:n0=H.length) (h:r1.fz H.length [] L d=r):Cv n0 r1 (H++L) r H:=by
 subst h; exact cv_none d rfl (by omega) hcl
theorem cv_id {n0:Nat} {H:List AO} {r:SV}:Cv n0 r H r H:=fun S v hS hsim hv=>⟨S.ρ,by subst hS; exact Ext.refl _ _,by subst hS; exact hsim,by subst hS; exact hv⟩
theorem fz_under {n:Nat} {ks:List Nat} {L:List AO} {d:Nat} {s:SV} (h:s.under n=true):SV.fz n ks L (d+1) s=s:=by unfold SV.fz; rw[if_pos h]
@[simp] theorem fz_i64 (n:Nat) (ks:List Nat) (L:List AO) (d:Nat) (k:Int):SV.fz n ks L (d+1) (i64 k)=i64 k:=fz_under rfl
@[simp] theorem fz_bl (n:Nat) (ks:List Nat) (L:List AO) (d:Nat) (k:Bool):SV.fz n ks L (d+1) (bl k)=bl k:=fz_under rfl
end Go.Ab
namespace Go.Ab
variable [GlobEnv] [FrEnv] [KnEnv]
structure IsI (H:List AO) (x:SV) (l:List Int):Prop where
 vd:x.vd=true
 ug:x.ug=x
 sl:x.isSl=true
 cell:x.isCell=true
 sz:x.szIs 1=true
 len:x.slen=l.length
 und:x.under H.length=true
 row:(x.row H).take l.length=ints l
 flat:x.flat=[x]
theorem objCells_app {H:List AO} {i ver:Nat} (L:List AO) (h:i<H.length):objCells (H++L) i ver=objCells H i ver:=by
 unfold objCells; rw[List.getElem?_append_left h]
theorem row_app {H:List AO} {x:SV} (L:List AO) (h:x.under H.length=true):x.row (H++L)=x.row H:=by
 cases x<;>try rfl
 rename_i i off len sz ver
 simp only[SV.row]; rw[objCells_app L (by simpa[SV.under]using h)]
namespace IsI
variable {H:List AO} {x:SV} {l:List Int}
theorem rowlen (h:IsI H x l):l.length≤(x.row H).length:=by
 have:=congrArg List.length h.row
 simp at this; omega
theorem ldlen (h:IsI H x l) {k:Nat} (hk:k<l.length):k<(x.row H).length:=Nat.lt_of_lt_of_le hk h.rowlen
theorem ld (h:IsI H x l) {k:Nat} (hk:k<l.length):((x.row H).drop k).headD .any=i64 (l.getD k 0):=by
 have h1:=h.ldlen hk
 have h2:((x.row H).take l.length)[k]? = (ints l)[k]? := by rw[h.row]
 rw[List.getElem?_take_of_lt hk]at h2
 rw[List.headD_eq_head?_getD,List.head?_drop,h2]
 simp[ints,hk]
theorem ok (h:IsI H x l) {k:Nat} (hk:k<l.length):ldok H (.ptr x k) 1:=by
 have:=h.ldlen hk
 simp only[ldok,at_ptr,List.length_drop]; omega
theorem v (h:IsI H x l) {k:Nat} (hk:k<l.length):ldv H (.ptr x k)=i64 (l[k]'hk):=by
 have:=h.ld hk
 simp only[ldv,at_ptr,this,List.getD_eq_getElem?_getD,List.getElem?_eq_getElem hk,Option.getD_some]
theorem own0 (H:List AO) (L:List AO) (k ver:Nat) (l m:List Int) (T:TypeId) (h:L[k]? = some ⟨ints (l++m),T,ver,true⟩):IsI (H++L) (.own (H.length+k) 0 l.length 1 ver) l:=by
 refine⟨rfl,rfl,rfl,rfl,rfl,rfl,?_,?_,rfl⟩
 · have:k<L.length:=getElem?_lt h
   simp; omega
 · simp only[SV.row,objCells_new,List.drop_zero]
   unfold objCells
   rw[h]
   simp[ints]
end IsI
theorem li_go {P:Program} (hm:P.follows .mixedOrders=true) {N:Nat} {i j:IC} (e:i=j) {env:Env} {H:List AO} {K:XE->Env->List AO->Prop}
 (h:X P N drawB j env H fun x env H=>match x with | .normal=>LI P N drawB i env H K | x=>K x env H):LI P N drawB i env H K:=by
 subst e; exact li_round hm h
@[congr] theorem LI_congr {P:Program} {N:Nat} {D:Array Oper->List Nat->List Ins->Bool} {i:IC} {env env':Env} {H H':List AO} {K:XE->Env->List AO->Prop} (h:Ev env=env') (h2:Ev H=H'):LI P N D i env H K=LI P N D i env' H' K:=by rw[Ev_to h,Ev_to h2]
@[simp] theorem add_lt_left' (n k:Nat):(n+k<n)=False:=by simp
theorem wrap_nat {n:Nat} (h:n≤9223372036854775807):IntKind.i64.wrap (n:Int)=n:=wrap_id (by omega) (by omega)
theorem wrap_suc {n:Nat} (h:n<9223372036854775807):IntKind.i64.wrap ((n:Int)+1)=(n:Int)+1:=wrap_id (by omega) (by omega)
theorem wrap_succ {n:Nat} (h:n<9223372036854775807):IntKind.i64.wrap ((n:Int)+1)=((n+1:Nat):Int):=by rw[wrap_id (by omega) (by omega)]; rfl
@[simp] theorem ints_G {l:List Int} {k:Nat} (h:k<(ints l).length):(ints l)[k]=i64 (l[k]'(by simpa using h)):=by simp[ints]
def SV.strip:SV->SV
 | .gd true x=>x.strip
 | x=>x
theorem vr_strip {S:St} {s:SV} {v:Value} (h:VR S s v):VR S s.strip v:=by
 induction h with
 | gd b x v h0 h ih =>
  cases b with
  | true=>exact ih rfl
  | false=>exact .gd false x v h0 h
 | any v=>exact .any v
 | val v=>exact .val v
 | nilslc=>exact .nilslc
 | slc cells len a cap us hc hl hi h ih=>exact .slc cells len a cap us hc hl hi h
 | own i off len sz ver a cap o ho hv hc hz h=>exact .own i off len sz ver a cap o ho hv hc hz h
 | ptrI cells len k a us hl hi h ih=>exact .ptrI cells len k a us hl hi h
 | ptrO i off len sz ver k a o ho hv h=>exact .ptrO i off len sz ver k a o ho hv h
 | agg l us hl h ih=>exact .agg l us hl h
 | tup l us hl h ih=>exact .tup l us hl h
 | fn f x y us vs hl h hl' h' ih ih'=>exact .fn f x y us vs hl h hl' h'
 | ifc t x v h ih=>exact .ifc t x v h
 | yl i l o ho h=>exact .yl i l o ho h
 | mp i ver l o ho hv h=>exact .mp i ver l o ho hv h
 | mpf vs l es cl us hb hn hu hl h ih=>exact .mpf vs l es cl us hb hn hu hl h
theorem Ok.strip {P:Program} {f:FuncId} {args:List SV} {H H':List AO} {out:Out} (h:Ok P f (args.map SV.strip) H out H'):Ok P f args H out H' :=
 ⟨h.1,fun S vs hH hS hv=>h.2 S vs hH hS (hv.map fun s v hs=>vr_strip hs)⟩
theorem callq_st {P:Program} {on:Bool} {k:FuncId} {args:List SV} {H:List AO} {r:SV} {K:SV->Prop} (h:on=true->Ok P k (args.map SV.strip) H (.ret r) H) (hk:K r):CallQ P on (.fn (.func k) [] []) args H K :=
 callq_go (fun ho=>(h ho).strip) hk
theorem IsI.whole {H L:List AO} {T:TypeId} {l:List Int} {k n ver:Nat} (h:L[k]? = some ⟨ints l,T,ver,true⟩) (hn:n=l.length):IsI (H++L) (.own (H.length+k) 0 n 1 ver) l:=by
 subst hn; exact IsI.own0 H L k ver l [] T (by simpa using h)
section
variable (n:Nat) (ks:List Nat) (L:List AO) (d:Nat)
theorem map_fz_under {l:List SV} (h:SV.underL n l=true):l.map (SV.fz n ks L (d+1))=l:=by
 rw[SV.underL_iff]at h
 have:l.map (SV.fz n ks L (d+1))=l.map id:=List.map_congr_left fun s hs=>fz_under (h s hs)
 simpa using this
@[simp] theorem fz_agg (l:List SV):SV.fz n ks L (d+2) (.agg l)=.agg (l.map (SV.fz n ks L (d+1))):=by
 by_cases h:(SV.agg l).under n=true
 · rw[fz_under h]; rw[map_fz_under n ks L d (by simpa[SV.under]using h)]
 · conv=>lhs; unfold SV.fz
   rw[if_neg h]
@[simp] theorem fz_tup (l:List SV):SV.fz n ks L (d+2) (.tup l)=.tup (l.map (SV.fz n ks L (d+1))):=by
 by_cases h:(SV.tup l).under n=true
 · rw[fz_under h]; rw[map_fz_under n ks L d (by simpa[SV.under]using h)]
 · conv=>lhs; unfold SV.fz
   rw[if_neg h]
@[simp] theorem fz_slc (l:List SV) (m:Nat):SV.fz n ks L (d+2) (.slc l m)=.slc (l.map (SV.fz n ks L (d+1))) m:=by
 by_cases h:(SV.slc l m).under n=true
 · rw[fz_under h]; rw[map_fz_under n ks L d (by simpa[SV.under]using h)]
 · conv=>lhs; unfold SV.fz
   rw[if_neg h]
@[simp] theorem fz_st (s:ByteArray):SV.fz n ks L (d+1) (st s)=st s:=fz_under rfl
@[simp] theorem fz_val (v:Value):SV.fz n ks L (d+1) (.val v)=.val v:=fz_under rfl
@[simp] theorem fz_own (k off len sz ver:Nat):SV.fz n ks L (d+1) (.own (n+k) off len sz ver)=(match L[k]? with
     | some o =>
       match placeOf ks k with
       | some p=>if o.ver=ver then .own (n+p) off len sz 0 else .any
       | none=>if o.live=true∧o.ver=ver∧off+len*sz≤o.cells.length then .slc (((o.cells.drop off).take (len*sz)).map (SV.fz n ks L d)) len else .any
     | none=>.any):=by
 conv=>lhs; unfold SV.fz
 rw[if_neg (by simp[SV.under])]
 have e:n+k-n=k:=by omega
 simp only[e]
 cases L[k]? with
 | none=>rfl
 | some o=>cases placeOf ks k<;>rfl
@[simp] theorem fz_own0 (off len sz ver:Nat):SV.fz n ks L (d+1) (.own n off len sz ver)=(match L[0]? with
     | some o =>
       match placeOf ks 0 with
       | some p=>if o.ver=ver then .own (n+p) off len sz 0 else .any
       | none=>if o.live=true∧o.ver=ver∧off+len*sz≤o.cells.length then .slc (((o.cells.drop off).take (len*sz)).map (SV.fz n ks L d)) len else .any
     | none=>.any):=fz_own n ks L d 0 off len sz ver
end
end Go.Ab
namespace Go.Ab
variable [GlobEnv] [FrEnv] [KnEnv]
open Go.RowKit
def st0 (W:World):St:=⟨fun _=>none,[],W⟩
theorem sim0 (W:World) (hg:(st0 W).GL) (hk:KnEnv.kn=[]):Sim (st0 W) :=
 ⟨fun i o h=>by simp[st0]at h,fun i o h=>by simp[st0]at h,fun i j o o' b h=>by simp[st0]at h,fun i o h=>by simp[st0]at h,hg,fun p hp=>by rw[hk]at hp; cases hp⟩
theorem rw0 (W:World) (k:Nat):¬ (st0 W).rw k:=by
 rintro⟨i,o,h,_⟩; simp[st0]at h
theorem below_of_ext {W W':World} {ρ:Nat->Option Nat} {H:List AO} (h:Ext 0 (st0 W) ⟨ρ,H,W'⟩):Below W.heap.size W W' :=
 ⟨h.os,h.tape,h.output,h.size,fun k hk=>(h.imm k hk (rw0 W k)).1⟩
theorem ok_calls [KnNo] {P:Program} {f:FuncId} {args:List SV} (h:Ok P f args [] (.ret (bl true)) []) {W:World} (hg:(st0 W).GL) {vs:List Value} (hv:VRs (st0 W) args vs) :
 Calls P f vs.toArray W fun e W'=>e=.returned (.bool true)∧Below W.heap.size W W':=by
 refine(h.2 (st0 W) vs rfl (sim0 W hg KnNo.nokn) hv).mono ?_
 rintro e W' ⟨v,ρ',hext,_,rfl,hv⟩
 refine⟨?_,below_of_ext hext⟩
 have:=hv.isB rfl
 rw[this]; rfl
end Go.Ab
namespace Go.Ab
variable [GlobEnv] [FrEnv] [KnEnv] [KnNo] [KnOld]
open Go.ChangeShapes Go.WideShapes Go.RowKit
inductive Sh where
 | int (k:IntKind)
 | bool
 | str
 | sl (e:Sh)
 | st (l:List Sh)
inductive Dt where
 | int (k:IntKind) (n:Int)
 | bool (b:Bool)
 | str (s:ByteArray)
 | sl (l:List Dt)
 | agg (l:List Dt)
 deriving Inhabited
mutual
def Dt.cells:Dt->List SV
 | .int k n=>[.val (.int k n)]
 | .bool b=>[bl b]
 | .str s=>[Ab.st s]
 | .sl l=>[.slc (Dt.cellsL l) l.length]
 | .agg l=>Dt.cellsL l
def Dt.cellsL:List Dt->List SV
 | []=>[]
 | d::r=>d.cells++Dt.cellsL r
end
def Dt.sv:Dt->SV
 | .agg l=>.agg (Dt.cellsL l)
 | d=>d.cells.headD .any
mutual
def Sh.has:Sh->Dt->Prop
 | .int k,d=>∃ n,d=.int k n∧(Lit.int k n).wf=true
 | .bool,d=>∃ b,d=.bool b
 | .str,d=>∃ s,d=.str s∧s.size≤maxLen
 | .sl e,d=>∃ l,d=.sl l∧l.length≤maxLen∧∀ x∈l,e.has x
 | .st l,d=>∃ m,d=.agg m∧Sh.hasL l m
def Sh.hasL:List Sh->List Dt->Prop
 | [],m=>m=[]
 | s::r,m=>∃ d m',m=d::m'∧s.has d∧Sh.hasL r m'
end
mutual
def Sh.chk (P:Program):Sh->TypeId->Bool
 | .int k,t=>match P.underlying t with | some (.int k')=>decide (k'=k) | _=>false
 | .bool,t=>match P.underlying t with | some .bool=>true | _=>false
 | .str,t=>match P.underlying t with | some .string=>true | _=>false
 | .sl e,t=>match P.underlying t with | some (.slice e')=>e.chk P e' | _=>false
 | .st l,t=>match P.underlying t with | some (.struct fs)=>Sh.chkL P l fs.toList 0 (P.cellsOf t) | _=>false
def Sh.chkL (P:Program):List Sh->List Field->Nat->Nat->Bool
 | [],fs,off,tot=>fs.isEmpty&&off==tot
 | s::r,fs,off,tot=>match fs with | []=>false | f::fs=>f.offset==off&&s.chk P f.type&&Sh.chkL P r fs (off+P.cellsOf f.type) tot
end
section
variable {H:Type} {enc:TypeId×Value->H} {P:Program} {W:World} {base:Nat} {spare:Nat->Bool} {held:Bool}
theorem cellsL_append (a b:List Dt):Dt.cellsL (a++b)=Dt.cellsL a++Dt.cellsL b:=by
 induction a with
 | nil=>rfl
 | cons x r ih=>simp[Dt.cellsL,ih]
theorem read_row {e:TypeId} {sh:Sh} {n:Nat} {a:Addr} {elems:List (DataW H×List MemPlace)}
 (ih:∀ cs x,DataW.trod enc P W base spare held n e cs=some x->∃ d,sh.has d∧VRs (st0 W) d.cells cs) :
 ∀ k,k≤elems.length->(∀ i,i<k->(W.cells? base (a.add (i*P.cellsOf e)) (P.cellsOf e)).bind (DataW.trod enc P W base spare held n e)=elems[i]?) →
  ∃ (ds:List Dt) (us:List Value),ds.length=k∧(∀ x∈ds,sh.has x)∧VRs (st0 W) (Dt.cellsL ds) us∧us.length=k*P.cellsOf e∧∀ j u,us[j]? = some u->W.cell? (a.add j)=some u:=by
 intro k
 induction k with
 | zero=>intro _ _; exact⟨[],[],rfl,by simp,VRs.nil _,by simp,by simp⟩
 | succ k ihk =>
  intro hk hel
  obtain⟨ds,us,h1,h2,h3,h4,h5⟩:=ihk (by omega) (fun i hi=>hel i (by omega))
  have h6:=hel k (by omega)
  rw[List.getElem?_eq_getElem (by omega),Option.bind_eq_some_iff]at h6
  obtain⟨cs,hcs,ht⟩:=h6
  obtain⟨d,hd,hv⟩:=ih cs _ ht
  obtain⟨_,hlen,hc⟩:=World.cells?_some hcs
  refine⟨ds++[d],us++cs,by simp[h1],?_,?_,?_,?_⟩
  · intro x hx
    rcases List.mem_append.1 hx with hx | hx
    · exact h2 x hx
    · simp at hx; subst hx; exact hd
  · rw[cellsL_append]; simpa[Dt.cellsL]using h3.append hv
  · simp[h4,hlen,Nat.add_mul]
  · intro j u hj
    by_cases hlt:j<us.length
    · rw[List.getElem?_append_left hlt]at hj; exact h5 j u hj
    · rw[List.getElem?_append_right (by omega)]at hj
      have hj':j-us.length<cs.length:=getElem?_lt hj
      have:=hc (j-us.length) (by omega)
      rw[hj,add_add]at this
      rw[←this]; congr 2; omega
mutual
theorem read (sh:Sh):∀ {t:TypeId} {fuel:Nat} {cs:List Value} {x:DataW H×List MemPlace},sh.chk P t=true->DataW.trod enc P W base spare held fuel t cs=some x →
 ∃ d,sh.has d∧VRs (st0 W) d.cells cs:=by
 intro t fuel cs x hc h
 cases sh with
 | int k =>
  simp only[Sh.chk]at hc
  split at hc
  · rename_i k' ht
    have:k'=k:=by simpa using hc
    subst this
    obtain⟨n,rfl,_,hw⟩:=DataW.trod_int ht h
    exact⟨.int k' n,⟨n,rfl,hw⟩,VRs.cons (.val _) (VRs.nil _)⟩
  · cases hc
 | bool =>
  simp only[Sh.chk]at hc
  split at hc
  · rename_i ht
    obtain⟨b,rfl⟩:∃ b,cs=[.bool b]:=by
     cases fuel with
     | zero=>simp[DataW.trod]at h
     | succ n =>
      unfold DataW.trod at h
      rw[ht]at h
      split at h<;>simp_all
    exact⟨.bool b,⟨b,rfl⟩,VRs.cons (.val _) (VRs.nil _)⟩
  · cases hc
 | str =>
  simp only[Sh.chk]at hc
  split at hc
  · rename_i ht
    obtain⟨s,rfl,_,hs⟩:=DataW.trod_string ht h
    exact⟨.str s,⟨s,rfl,hs⟩,VRs.cons (.val _) (VRs.nil _)⟩
  · cases hc
 | sl e =>
  simp only[Sh.chk]at hc
  split at hc
  · rename_i e' ht
    rcases DataW.trod_slice ht h with ⟨rfl,_⟩ | ⟨a,len,cap,elems,rest,n,_,rfl,_,hb,hl,hm,hlen,hel,_,_⟩
    · exact⟨.sl [],⟨[],rfl,by simp,by simp⟩,VRs.cons .nilslc (VRs.nil _)⟩
    · obtain⟨ds,us,h1,h2,h3,h4,h5⟩:=read_row (sh:=e) (fun cs x hx=>read e hc hx) len (by omega) hel
      refine⟨.sl ds,⟨ds,rfl,by omega,h2⟩,VRs.cons ?_ (VRs.nil _)⟩
      have:ds.length=len:=h1
      subst this
      exact .slc _ _ a cap us hl h3.1 ⟨h5,fun _=>rw0 W _,fun hf=>absurd (KnOld.old.symm.trans hf) (by decide)⟩ h3.2
  · cases hc
 | st l =>
  simp only[Sh.chk]at hc
  split at hc
  · rename_i fs ht
    obtain⟨xs,n,_,_,hl,hlen,hf⟩:=DataW.trod_struct ht h
    obtain⟨m,hm,hv⟩:=readL l (n:=n) (cs:=cs) (fs:=fs.toList) (off:=0) (xs:=xs) hc (fun i f hi=>by
     have hlt:i<xs.length:=by rw[hlen]; simpa using getElem?_lt hi
     refine⟨xs[i],?_⟩
     rw[hf i f (by simpa using hi),List.getElem?_eq_getElem hlt]) hl
    exact⟨.agg m,⟨m,rfl,hm⟩,by rw[Dt.cells]; simpa using hv⟩
  · cases hc
theorem readL (l:List Sh):∀ {n:Nat} {cs:List Value} {fs:List Field} {off tot:Nat} {xs:List (DataW H×List MemPlace)},Sh.chkL P l fs off tot=true →
 (∀ (i:Nat) (f:Field),fs[i]? = some f->∃ x,DataW.trod enc P W base spare held n f.type ((cs.drop f.offset).take (P.cellsOf f.type))=some x)->cs.length=tot →
 ∃ m,Sh.hasL l m∧VRs (st0 W) (Dt.cellsL m) (cs.drop off):=by
 intro n cs fs off tot xs hc hf hl
 cases l with
 | nil =>
  simp only[Sh.chkL,Bool.and_eq_true,List.isEmpty_iff,beq_iff_eq]at hc
  refine⟨[],rfl,?_⟩
  rw[List.drop_of_length_le (by omega)]
  exact VRs.nil _
 | cons s r =>
  simp only[Sh.chkL]at hc
  split at hc
  · cases hc
  · rename_i f fs'
    simp only[Bool.and_eq_true,beq_iff_eq]at hc
    obtain⟨⟨h1,h2⟩,h3⟩:=hc
    obtain⟨x,hx⟩:=hf 0 f rfl
    obtain⟨d,hd,hv⟩:=read s h2 hx
    obtain⟨m,hm,hv'⟩:=readL r (n:=n) (cs:=cs) (fs:=fs') (xs:=xs) h3 (fun i f hi=>hf (i+1) f (by simpa using hi)) hl
    refine⟨d::m,⟨d,m,rfl,hd,hm⟩,?_⟩
    have:=hv.append hv'
    rw[h1,<- List.drop_drop,List.take_append_drop]at this
    simpa[Dt.cellsL]using this
end
end
end Go.Ab
namespace Go.Ab
variable [GlobEnv] [FrEnv] [KnEnv] [KnNo] [KnOld]
open Go.ChangeShapes Go.WideShapes Go.ChangeAt Go.RowKit
section
variable {H:Type} {enc:TypeId×Value->H} {P:Program} {W:World} {base b0:Nat} {spare:Nat->Bool} {held:Bool} {r:Reach}
theorem below_all (hl:laidOutB P=true) {W':World} (hb:Below W.heap.size W W'):∀ {ts:List TypeId} {vs:List Value} {ds:List (DataW H)} {p:List MemPlace},
 (∀ t∈ts,P.readableRec t=true∧t<P.types.size)->DataW.TrodAll enc P W 0 (fun _=>true) true ts vs ds p->DataW.TrodAll enc P W' 0 (fun b=>decide (b<W.heap.size)) true ts vs ds p
 | [],vs,ds,p,_,h=>by obtain⟨rfl,rfl,rfl⟩:=trodAll_nil h; exact trodAll_mk0
 | t::ts,vs,ds,p,hr,h=>by
  obtain⟨v,vs',d,ds',p,q,rfl,rfl,rfl,h1,h2⟩:=trodAll_cons h
  have hlt:∀ x∈p,x.block<W.heap.size:=by obtain⟨m,hm⟩:=h1; exact DataW.trod_lt m _ _ _ hm
  exact trodAll_cons_mk (Below.trod hl (hr t (by simp)).1 (hr t (by simp)).2 h1 hb hlt) (below_all hl hb (fun t ht=>hr t (by simp[ht])) h2)
theorem trodAll_len:∀ {ts:List TypeId} {vs:List Value} {ds:List (DataW H)} {p:List MemPlace},DataW.TrodAll enc P W base spare held ts vs ds p->ds.length=ts.length
 | [],vs,ds,p,h=>by obtain⟨rfl,rfl,rfl⟩:=trodAll_nil h; rfl
 | t::ts,vs,ds,p,h=>by
  obtain⟨v,vs',d,ds',p,q,rfl,rfl,rfl,h1,h2⟩:=trodAll_cons h
  simp[trodAll_len h2]
end
end Go.Ab
namespace Go.Ab
variable [GlobEnv] [FrEnv] [KnEnv]
def SV.gv (k ver:Nat) (cs:List SV):Nat->SV->SV
 | 0,s=>s
 | d+1,s =>
  match s with
  | .own i off len sz v=>if i=k∧v=ver∧off+len*sz≤cs.length then .slc ((cs.drop off).take (len*sz)) len else .own i off len sz v
  | .agg l=>.agg (l.map (SV.gv k ver cs d))
  | .tup l=>.tup (l.map (SV.gv k ver cs d))
  | s=>s
section
variable {S:St} {k:Nat} {o:AO}
theorem gv_rel (hS:Sim S) (ho:S.H[k]? = some o) (hl:o.live=true):∀ (d:Nat) (s:SV) (v:Value),VR S s v->VR ⟨S.ρ,S.H.set k o.dead,S.w⟩ (s.gv k o.ver o.cells d) v:=by
 have he:=ext_kill ho
 intro d
 induction d with
 | zero=>intro s v h; exact h.ext he
 | succ d ih =>
  intro s v h
  unfold SV.gv
  split
  · rename_i i off len sz ver
    split
    · rename_i hc
      obtain⟨rfl,rfl,hlen⟩:=hc
      obtain⟨ad,cap,rfl,hcap,hz,hat⟩:=h.own_inv ho rfl
      have h1:=hS.live i o ho hl
      unfold St.OwnAt at hat
      cases hρ:S.ρ i with
      | none =>
       rw[hρ]at hat
       obtain⟨rfl,rfl⟩:=hat
       cases ad with
       | none=>simpa using VR.nilslc
       | some a =>
        simp only[Nat.zero_mul,List.take_zero]
        exact .slc [] 0 a 0 [] hcap rfl ⟨fun j u hj=>by simp at hj,fun hne=>absurd rfl hne,imm_part0⟩ fun j s u hj=>by simp at hj
      | some b =>
       rw[hρ]at hat h1
       obtain⟨us,rest,hh,hvr⟩:=h1
       have hul:us.length=o.cells.length:=hvr.1
       have him:(⟨S.ρ,S.H.set i o.dead,S.w⟩:St).Imm ⟨b,off,none⟩ ((us.drop off).take (len*sz)):=by
        refine⟨?_,?_,fun _ _=>.inl ⟨_,_,hh⟩⟩
        · intro j u hj
          rw[List.getElem?_take]at hj
          split at hj
          · rw[List.getElem?_drop]at hj
            have hadd:(⟨b,off,none⟩:Addr).add j=⟨b,off+j,none⟩:=by unfold Addr.add; split<;>simp_all
            rw[hadd]
            show S.w.cell? _=_
            unfold World.cell?
            simp only[hh,Option.isSome_none,Bool.false_eq_true,if_false]
            simp[List.getElem?_append_left (getElem?_lt hj),hj]
          · cases hj
        · rintro hne ⟨j,p,hp,hpl,hpρ⟩
          simp only at hp hpρ
          by_cases hij:j=i
          · subst hij; rw[List.getElem?_set_self (getElem?_lt ho)]at hp; cases hp; simp[AO.dead,AO.own]at hpl
          · rw[List.getElem?_set_ne (by omega)]at hp
            exact hij (hS.inj j i p o b hp ho hpl (AO.own_live hl) hpρ hρ)
       have hvs:VRs (⟨S.ρ,S.H.set i o.dead,S.w⟩:St) ((o.cells.drop off).take (len*sz)) ((us.drop off).take (len*sz)):=((hvr.ext he).drop off).take (len*sz)
       cases ad with
       | none =>
        have h0:=hz rfl
        subst h0
        have hc0:cap=0:=by
         rcases hat with h2 | ⟨h2,_⟩
         · exact h2
         · cases h2
        subst hc0
        simpa using VR.nilslc
       | some a =>
        rcases hat with h2 | ⟨h2,_⟩
        · have:len=0:=by omega
          subst this
          simp only[Nat.zero_mul,List.take_zero]
          exact .slc [] 0 a cap [] hcap rfl ⟨fun j u hj=>by simp at hj,fun hne=>absurd rfl hne,imm_part0⟩ fun j s u hj=>by simp at hj
        · cases h2
          exact .slc _ len _ cap _ hcap hvs.1 him hvs.2
    · exact h.ext he
  · cases h with
    | agg _ us hl h=>exact VR.of_agg (VRs.map (S:=S) (us:=us) ⟨hl,h⟩ ih)
  · cases h with
    | tup _ us hl h=>exact VR.of_tup (VRs.map (S:=S) (us:=us) ⟨hl,h⟩ ih)
  · exact h.ext he
end
@[simp] theorem dead_eq (o:AO):AO.dead o=⟨[],o.ty,o.ver+1,false⟩:=rfl
def AO.gv (k ver:Nat) (cs:List SV) (d:Nat) (p:AO):AO:={ p with cells:=p.cells.map (SV.gv k ver cs d) }
theorem gv_own' {k ver:Nat} {cs:List SV} {d:Nat} {p:AO} (h:(p.gv k ver cs d).own=true):p.own=true:=by
 simpa[AO.own,AO.gv]using h
theorem gv_cell {k ver:Nat} {cs:List SV} {d:Nat} {s:SV} (h:s.isCell=true):(s.gv k ver cs d).isCell=true:=by
 cases d with
 | zero=>exact h
 | succ d =>
  unfold SV.gv
  split
  · split
    · rfl
    · exact h
  · simp[SV.isCell]at h
  · simp[SV.isCell]at h
  · exact h
theorem gv_under {k ver n:Nat} {cs:List SV} (hn:n≤k):∀ (d:Nat) (s:SV),s.under n=true->s.gv k ver cs d=s:=by
 intro d
 induction d with
 | zero=>intro s _; rfl
 | succ d ih =>
  intro s h
  have hm:∀ l:List SV,SV.underL n l=true->l.map (SV.gv k ver cs d)=l:=by
   intro l hl
   rw[SV.underL_iff]at hl
   have:l.map (SV.gv k ver cs d)=l.map id:=List.map_congr_left fun s hs=>ih s (hl s hs)
   simpa using this
  unfold SV.gv
  split
  · simp only[SV.under,decide_eq_true_eq]at h
    rw[if_neg (by omega)]
  · simp only[SV.under]at h; rw[hm _ h]
  · simp only[SV.under]at h; rw[hm _ h]
  · rfl
section
variable (k ver:Nat) (cs:List SV) (d:Nat)
@[simp] theorem gv_zero (s:SV):SV.gv k ver cs 0 s=s:=rfl
@[simp] theorem gv_i64 (n:Int):SV.gv k ver cs d (i64 n)=i64 n:=by cases d<;>rfl
@[simp] theorem gv_bl (b:Bool):SV.gv k ver cs d (bl b)=bl b:=by cases d<;>rfl
@[simp] theorem gv_st (s:ByteArray):SV.gv k ver cs d (st s)=st s:=by cases d<;>rfl
@[simp] theorem gv_val (v:Value):SV.gv k ver cs d (.val v)=.val v:=by cases d<;>rfl
@[simp] theorem gv_any:SV.gv k ver cs d .any=.any:=by cases d<;>rfl
@[simp] theorem gv_slc (l:List SV) (n:Nat):SV.gv k ver cs d (.slc l n)=.slc l n:=by cases d<;>rfl
@[simp] theorem gv_ptr (s:SV) (n:Nat):SV.gv k ver cs d (.ptr s n)=.ptr s n:=by cases d<;>rfl
@[simp] theorem gv_fn (f:Fn) (a b:List SV):SV.gv k ver cs d (.fn f a b)=.fn f a b:=by cases d<;>rfl
@[simp] theorem gv_gd (b:Bool) (x:SV):SV.gv k ver cs d (.gd b x)=.gd b x:=by cases d<;>rfl
@[simp] theorem gv_agg (l:List SV):SV.gv k ver cs (d+1) (.agg l)=.agg (l.map (SV.gv k ver cs d)):=rfl
@[simp] theorem gv_tup (l:List SV):SV.gv k ver cs (d+1) (.tup l)=.tup (l.map (SV.gv k ver cs d)):=rfl
@[simp] theorem gv_own (i off len sz v:Nat):SV.gv k ver cs (d+1) (.own i off len sz v)=if i=k∧v=ver∧off+len*sz≤cs.length then .slc ((cs.drop off).take (len*sz)) len else .own i off len sz v:=rfl
end
theorem gv_below {k ver n:Nat} {cs:List SV} (hc:SV.underL n cs=true):∀ (d:Nat) (s:SV),s.under n=true->(s.gv k ver cs d).under n=true:=by
 intro d
 induction d with
 | zero=>intro s h; exact h
 | succ d ih =>
  intro s h
  have hm:∀ l:List SV,SV.underL n l=true->SV.underL n (l.map (SV.gv k ver cs d))=true:=by
   intro l hl
   rw[SV.underL_iff]at hl ⊢
   intro s hs
   obtain⟨t,ht,rfl⟩:=List.mem_map.1 hs
   exact ih t (hl t ht)
  unfold SV.gv
  split
  · split
    · rw[SV.under,SV.underL_iff]
      rw[SV.underL_iff]at hc
      intro s hs
      exact hc s (List.mem_of_mem_drop (List.mem_of_mem_take hs))
    · exact h
  · simp only[SV.under]at h ⊢; exact hm _ h
  · simp only[SV.under]at h ⊢; exact hm _ h
  · exact h
section
variable {S:St} {H0 L:List AO} {k d:Nat} {o:AO}
def givS (S:St) (H0 L:List AO) (k d:Nat) (o:AO):St:=⟨S.ρ,H0++(L.set k o.dead).map (AO.gv (H0.length+k) o.ver o.cells d),S.w⟩
theorem giv_at {i:Nat} {p:AO} (h:(givS S H0 L k d o).H[i]? = some p) (ho:L[k]? = some o) :
 (i<H0.length∧H0[i]? = some p)∨(i=H0.length+k∧p=AO.gv (H0.length+k) o.ver o.cells d o.dead)∨(∃ p0 j,i=H0.length+j∧j≠k∧L[j]? = some p0∧p=AO.gv (H0.length+k) o.ver o.cells d p0):=by
 simp only[givS]at h
 by_cases hi:i<H0.length
 · rw[List.getElem?_append_left hi]at h; exact .inl ⟨hi,h⟩
 · rw[List.getElem?_append_right (by omega),List.getElem?_map,Option.map_eq_some_iff]at h
   obtain⟨p0,h1,rfl⟩:=h
   right
   by_cases hk:i-H0.length=k
   · left
     rw[hk,List.getElem?_set_self (getElem?_lt ho)]at h1
     cases h1
     exact⟨by omega,rfl⟩
   · right
     rw[List.getElem?_set_ne (by omega)]at h1
     exact⟨p0,i-H0.length,by omega,hk,h1,rfl⟩
theorem giv_ext (hH:S.H=H0++L) (ho:L[k]? = some o):Ext S.H.length S (givS S H0 L k d o) where
 obj:=by
  intro i p hi hp
  rw[hH]at hp hi
  by_cases hlt:i<H0.length
  · rw[List.getElem?_append_left hlt]at hp
    exact⟨p,by simp only[givS]; rw[List.getElem?_append_left hlt]; exact hp,Nat.le_refl _,fun _=>rfl⟩
  · rw[List.getElem?_append_right (by omega)]at hp
    by_cases hk:i-H0.length=k
    · rw[hk,ho]at hp; cases hp
      refine⟨AO.gv (H0.length+k) o.ver o.cells d o.dead,?_,by simp[AO.gv,AO.dead],fun _=>rfl⟩
      simp only[givS]
      rw[List.getElem?_append_right (by omega),List.getElem?_map,hk,List.getElem?_set_self (getElem?_lt ho)]; rfl
    · refine⟨AO.gv (H0.length+k) o.ver o.cells d p,?_,Nat.le_refl _,fun _=>rfl⟩
      simp only[givS]
      rw[List.getElem?_append_right (by omega),List.getElem?_map,List.getElem?_set_ne (by omega),hp]; rfl
 imm:=by
  intro b hb hn
  refine⟨rfl,?_⟩
  rintro⟨i,p,hp,hl,hρ⟩
  rcases giv_at hp ho with ⟨h1,h2⟩ | ⟨rfl,rfl⟩ | ⟨p0,j,rfl,h1,h2,rfl⟩
  · exact hn ⟨i,p,by rw[hH,List.getElem?_append_left h1]; exact h2,hl,hρ⟩
  · simp[AO.gv,AO.dead,AO.own]at hl
  · exact hn ⟨H0.length+j,p0,by rw[hH,List.getElem?_append_right (by omega)]; simpa using h2,gv_own' hl,hρ⟩
 size:=Nat.le_refl _
 shape:=fun _ _ _ h=>h
 loops:=fun _ r h=>⟨r,h⟩
 os:=rfl
 tape:=rfl
 output:=rfl
theorem giv_rel (hS:Sim S) (hH:S.H=H0++L) (ho:L[k]? = some o) (hl:o.live=true) (s:SV) (v:Value) (h:VR S s v):VR (givS S H0 L k d o) (s.gv (H0.length+k) o.ver o.cells d) v:=by
 have ho':S.H[H0.length+k]? = some o:=by rw[hH,List.getElem?_append_right (by omega)]; simpa using ho
 have h1:=gv_rel hS ho' hl d s v h
 refine h1.ext (S:=⟨S.ρ,S.H.set (H0.length+k) o.dead,S.w⟩) ?_
 have hsz:(S.H.set (H0.length+k) o.dead).length=S.H.length:=by simp
 constructor
 · intro i p hi hp
   simp only at hp hi
   by_cases hik:i=H0.length+k
   · subst hik
     rw[List.getElem?_set_self (getElem?_lt ho')]at hp; cases hp
     refine⟨AO.gv (H0.length+k) o.ver o.cells d o.dead,?_,Nat.le_refl _,fun _=>rfl⟩
     simp only[givS]
     rw[List.getElem?_append_right (by omega),List.getElem?_map,Nat.add_sub_cancel_left,List.getElem?_set_self (getElem?_lt ho)]; rfl
   · rw[List.getElem?_set_ne (by omega),hH]at hp
     by_cases hlt:i<H0.length
     · rw[List.getElem?_append_left hlt]at hp
       exact⟨p,by simp only[givS]; rw[List.getElem?_append_left hlt]; exact hp,Nat.le_refl _,fun _=>rfl⟩
     · rw[List.getElem?_append_right (by omega)]at hp
       refine⟨AO.gv (H0.length+k) o.ver o.cells d p,?_,Nat.le_refl _,fun _=>rfl⟩
       simp only[givS]
       rw[List.getElem?_append_right (by omega),List.getElem?_map,List.getElem?_set_ne (by omega),hp]; rfl
 · intro b hb hn
   refine⟨rfl,?_⟩
   rintro⟨i,p,hp,hpl,hρ⟩
   rcases giv_at hp ho with ⟨h1,h2⟩ | ⟨rfl,rfl⟩ | ⟨p0,j,rfl,h1,h2,rfl⟩
   · refine hn ⟨i,p,?_,hpl,hρ⟩
     simp only
     rw[List.getElem?_set_ne (by omega),hH,List.getElem?_append_left h1]; exact h2
   · simp[AO.gv,AO.dead,AO.own]at hpl
   · refine hn ⟨H0.length+j,p0,?_,gv_own' hpl,hρ⟩
     simp only
     rw[List.getElem?_set_ne (by omega),hH,List.getElem?_append_right (by omega)]; simpa using h2
 · exact Nat.le_refl _
 · exact fun _ _ _ h=>h
 · exact fun _ r h=>⟨r,h⟩
 · rfl
 · rfl
 · rfl
theorem giv_sim (hS:Sim S) (hH:S.H=H0++L) (hcl:closed H0) (ho:L[k]? = some o) (hl:o.live=true):Sim (givS S H0 L k d o):=by
 have ho':S.H[H0.length+k]? = some o:=by rw[hH,List.getElem?_append_right (by omega)]; simpa using ho
 have hlen:(givS S H0 L k d o).H.length=S.H.length:=by simp[givS,hH]
 have at0:∀ {i:Nat} {p:AO},H0[i]? = some p->S.H[i]? = some p:=by
  intro i p h; rw[hH,List.getElem?_append_left (getElem?_lt h)]; exact h
 have at1:∀ {j:Nat} {p:AO},L[j]? = some p->S.H[H0.length+j]? = some p:=by
  intro j p h; rw[hH,List.getElem?_append_right (by omega)]; simpa using h
 constructor
 · intro i p hp hpl
   have key:∀ (p0:AO),S.H[i]? = some p0->p0.live=true->p.ty=p0.ty->(p.cells=p0.cells.map (SV.gv (H0.length+k) o.ver o.cells d)) →
    match S.ρ i with
    | none=>p.cells=[]
    | some b=>∃ us rest,S.w.heap[b]? = some (.cells (us++rest).toArray p.ty (0,0))∧VRs (givS S H0 L k d o) p.cells us:=by
    intro p0 h0 h0l hty hce
    have h1:=hS.live i p0 h0 h0l
    cases hρ:S.ρ i with
    | none=>rw[hρ]at h1; simp only at h1 ⊢; rw[hce,h1]; rfl
    | some b =>
     rw[hρ]at h1
     obtain⟨us,rest,h2,h3⟩:=h1
     exact⟨us,rest,by rw[hty]; exact h2,by rw[hce]; exact h3.map fun s v h=>giv_rel hS hH ho hl s v h⟩
   show match S.ρ i with
    | none=>p.cells=[]
    | some b=>∃ us rest,S.w.heap[b]? = some (.cells (us++rest).toArray p.ty (0,0))∧VRs (givS S H0 L k d o) p.cells us
   rcases giv_at hp ho with ⟨h1,h2⟩ | ⟨rfl,rfl⟩ | ⟨p0,j,rfl,h1,h2,rfl⟩
   · refine key p (at0 h2) hpl rfl ?_
     have:p.cells.map (SV.gv (H0.length+k) o.ver o.cells d)=p.cells.map id:=List.map_congr_left fun s hs=>gv_under (Nat.le_add_right _ _) d s (hcl i p h2 s hs)
     rw[this]; simp
   · simp[AO.gv,AO.dead]at hpl
   · exact key p0 (at1 h2) hpl rfl rfl
 · intro i p hp s hs
   rw[hlen]
   rcases giv_at hp ho with ⟨h1,h2⟩ | ⟨rfl,rfl⟩ | ⟨p0,j,rfl,h1,h2,rfl⟩
   · exact hS.bel i p (at0 h2) s hs
   · simp[AO.gv,AO.dead]at hs
   · simp only[AO.gv,List.mem_map]at hs
     obtain⟨t,ht,rfl⟩:=hs
     have h3:=hS.bel _ p0 (at1 h2) t ht
     refine⟨gv_below ?_ d t h3.1,fun hl=>gv_cell (h3.2 hl)⟩
     rw[SV.underL_iff]
     exact fun u hu=>(hS.bel _ o ho' u hu).1
 · intro i j p q b hi hj hil hjl hρi hρj
   have key:∀ {i:Nat} {p:AO},(givS S H0 L k d o).H[i]? = some p->p.own=true->∃ p0,S.H[i]? = some p0∧p0.own=true:=by
    intro i p hp hpl
    rcases giv_at hp ho with ⟨h1,h2⟩ | ⟨rfl,rfl⟩ | ⟨p0,j,rfl,h1,h2,rfl⟩
    · exact⟨p,at0 h2,hpl⟩
    · simp[AO.gv,AO.dead,AO.own]at hpl
    · exact⟨p0,at1 h2,gv_own' hpl⟩
   obtain⟨p0,h1,h2⟩:=key hi hil
   obtain⟨q0,h3,h4⟩:=key hj hjl
   exact hS.inj i j p0 q0 b h1 h3 h2 h4 hρi hρj
 · intro i p hp hl' hne
   rcases giv_at hp ho with ⟨h1,h2⟩ | ⟨rfl,rfl⟩ | ⟨p0,j,rfl,h1,h2,rfl⟩
   · obtain⟨l,x,m,us,env,k1,k2,k3,k4,k6⟩:=hS.lp i p (at0 h2) hl' hne
     exact⟨l,x,m,us,env,k1,k2,k3,k4,k6.ext (giv_ext hH ho)⟩
   · exact absurd rfl hne
   · have hne':p0.cells≠[]:=fun e=>hne (by simp[AO.gv,e])
     obtain⟨l,x,m,us,env,k1,k2,k3,k4,k6⟩:=hS.lp _ p0 (at1 h2) hl' hne'
     have hm:SV.gv (H0.length+k) o.ver o.cells d m=m:=by
      cases m<;>first | (simp[SpR]at k4; done) | (cases d<;>rfl)
     refine⟨l,x,m,us,env.map (SV.gv (H0.length+k) o.ver o.cells d),k1,?_,k3,k4,k6.map fun s v h=>giv_rel hS hH ho hl s v h⟩
     simp only[AO.gv,k2,List.map_cons,hm]
 · exact hS.gl.ext (giv_ext hH ho)
 · exact hS.kf.ext (giv_ext hH ho)
theorem get_map (e:Env) (f:SV->SV) (hf:f .any=.any) (t:Nat):Env.get (e.map fun p=>(p.1,f p.2)) t=f (e.get t):=by
 induction e with
 | nil=>exact hf.symm
 | cons p r ih =>
  obtain⟨k,v⟩:=p
  simp only[List.map_cons,Env.get]
  split
  · rfl
  · exact ih
end
attribute [simp] AO.gv
@[simp] theorem dep_q (f:Od) (args:List Od):J.dep (.q f args)=true:=rfl
attribute [simp] List.filter_cons
end Go.Ab
