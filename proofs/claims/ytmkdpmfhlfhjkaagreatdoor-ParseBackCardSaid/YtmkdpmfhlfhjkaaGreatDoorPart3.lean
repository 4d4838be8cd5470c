/- Steps of the proof. -/
import Derived.Test.YtmkdpmfhlfhjkaaGreatDoorPart2
set_option linter.all false
namespace Go.Proofs.YtmkdpmfhlfhjkaaGreatDoor
open Go.Ab
def wtW (e:Ex) (o:ZG):ZG:=az e (o++[32,119,101,105,103,104,116,32])
theorem QnN (e:Ex):Qaw (wtW e):=λo=>by
 have:=Qc6 e (o++[32,119,101,105,103,104,116,32]);unfold wtW; simp at this; omega
def Qca:Bool->List Int->ZG->ZG
 |_,[],o=>o
 |b,n::r,o=>Qca false r (o++(if b=true then [32,115,101,101,110,32,98,121,32]else [44,32])++QaC n)
theorem Qlx:∀ (l:List Int) (b:Bool),Qaw (Qca b l)
 |[],b,o=>Vb _
 |n::r,b,o=>by
  rw[Qca];refine Vf ?_ (Qlx r false _);simp
def Qgq (b:Bool) (o:ZG):ZG:=if b=true then o++[32,115,101,101,110,32,98,121,32,97,108,108]else o
theorem Qqn (b:Bool):Qaw (Qgq b):=λo=>by unfold Qgq; split<;>simp
def Qe3 (x:Qc) (o:ZG):ZG :=
 Qca true x.seen (Qgq x.all (fW wtW x.wt (o++([100,101,97,108,32]++(x.nm++([32,105,110,32]++(QaC x.lo++([32,46,46,32]++QaC x.hi))))))))++[59,10]
section
variable {H:ZI} {j q v0 N:Nat} {o0:ZG}
theorem Qxt (hp:PrA H j q o0 v0) {x:Qc} (hlo:0<=x.lo/\x.lo<=1000000000) (hhi:0<=x.hi/\x.hi<=1000000000):PcW H j q N ⟨x.c,78,0,true⟩ (IC.nth 1 Qbw) λo=>o++([100,101,97,108,32]++(x.nm++([32,105,110,32]++(QaC x.lo++([32,46,46,32]++QaC x.hi))))):=by
 intro K o v L U h0 h3 hL hK;have n1:=λH=>Qft hlo.1 (by omega:x.lo<=9223372036854775807) H;have n2:=λH=>Qft hhi.1 (by omega:x.hi<=9223372036854775807) H;simp at hL;simp[IC.nth,Qbw,Qc.c,rp,h0,h3];refine QL (r:=st (B (QaC x.lo))) (λ_=>n1 _) ?_;simp;refine QL (r:=st (B (QaC x.hi))) (λ_=>n2 _) ?_;simp;refine Qb (Qae hp o v (l:=[[100,101,97,108,32],x.nm,[32,105,110,32],QaC x.lo,[32,46,46,32],QaC x.hi]) (T:=9) (by simp; rfl) rfl (by simp) (by simp; omega)) ?_;simp;exact⟨⟨Qia (n2 _),Qia (n1 _)⟩,hK _ _ _ (by simp[h0,rp]) (by simp[h3,rp])⟩
theorem Qz2 (hp:PrA H j q o0 v0) {x:Qc} (hn:x.wt.length<=100) (hE:∀ e∈x.wt,PrK 73 [e.v] (az e)) {res:ZG} (hL:res.length<=140737488355328) {N:Nat} {K:ZH}
 (ai:∀ U v G,U.get 0=rp j->U.get 3=rp H.length->K (.exit 0) U (wr H j q res v++(⟨x.c,78,0,true⟩::G))) :
 ∀ (m i:Nat) (o:ZG) (v:Nat) (G:ZI) (U:Env),i+m=x.wt.length->fW wtW (x.wt.drop i) o=res->U.get 0=rp j->U.get 3=rp H.length->U.get 20=an x.wt->U.get 21=V x.wt.length->U.get 22=V i ->
  LI Tryz.prog N Qf QlI U (wr H j q o v++(⟨x.c,78,0,true⟩::G)) K:=by
 intro m
 induction m with
 |zero =>
  intro i o v G U hi hr h0 h3 h14 h15 h16;refine Qp hm QlI.eq_1 ?_;have e:i=x.wt.length:=by omega
  subst e;rw[V7,fW]at hr;subst hr;simp[h0,h3,h14,h15,h16,an];exact ai _ _ _ (by simp) (by simp)
 |succ m ih =>
  intro i o v G U hi hr h0 h3 h14 h15 h16;refine Qp hm QlI.eq_1 ?_;have hlt:i<x.wt.length:=by omega
  have ax:(i:Int)<x.wt.length:=by omega
  have hg:=QeC hlt;have hlen:=Qeo x.wt;have he:=hE x.wt[i] (Vp hlt);rw[VN hlt,fW]at hr;have hgr:=Qcd QnN (x.wt.drop (i+1)) (wtW x.wt[i] o);rw[hr]at hgr;have ih:=ih (i+1);generalize x.wt[i]=e at hg he hr hgr;have hgw:=Qc6 e (o++[32,119,101,105,103,104,116,32]);have hwd:wtW e o=az e (o++[32,119,101,105,103,104,116,32]):=rfl;rw[hwd]at hr hgr;have he':=λo v L h=>he.at hp o v L h;have hc5:=Ex.c_len e;have hcc:=Ex.take5 e;have hok:=Ex.okc e;simp only[Ex.v_c]at he';rw[Vj]at hgw;simp at hgw;simp[h0,h3,h14,h15,h16,an,ax,hg,hlen,hc5];refine⟨by omega,Qb (Qae hp o v (l:=[[32,119,101,105,103,104,116,32]]) (T:=9) (by simp; rfl) rfl (by simp) (by simp; omega)) ?_⟩;simp[h0,h3,h14,h15,h16,an,hc5,hcc];refine QQ (he' (o++[32,119,101,105,103,104,116,32]) _ _ (by omega)) ?_;rintro out H' ⟨rfl,v',rfl⟩;simp[h0,h3,h14,h15,h16,an];refine ih _ v' _ _ (by omega) hr ?_ ?_ ?_ ?_ ?_;all_goals simp[an,Qaj (show i<9223372036854775807 by omega)]
theorem Qyf (hp:PrA H j q o0 v0) {x:Qc} (hn:x.wt.length<=100) (hE:∀ e∈x.wt,PrK 73 [e.v] (az e)):PcW H j q N ⟨x.c,78,0,true⟩ (IC.nth 2 Qbw) (fW wtW x.wt):=by
 intro K o v L U h0 h3 hL hK;simp[IC.nth,Qbw,Qc.c,rp,h3,an];refine LI.cong (H':=wr H j q o v++(⟨x.c,78,0,true⟩::L)) rfl ?_;refine Qz2 hp hn hE hL (λU v G h0 h3 => ?_) x.wt.length 0 o v L _ (by omega) (by simp) (by simp[h0,rp]) (by simp[h3,rp]) (by simp[an]) (by simp) (by simp);simp;exact hK _ _ _ (by simp[h0,rp]) (by simp[h3,rp])
theorem QyT (hp:PrA H j q o0 v0) (x:Qc):PcW H j q N ⟨x.c,78,0,true⟩ (IC.nth 3 Qbw) (Qgq x.all):=by
 intro K o v L U h0 h3 hL hK;have hF:Qgq x.all o=if x.all=true then o++[32,115,101,101,110,32,98,121,32,97,108,108]else o:=rfl;obtain⟨k,lb,nm,lo,hi,wt,all,seen,who,acts,pays,p⟩:=x
 cases all with
 |true =>
  simp only[Zv]at hF;simp only[hF]at hL hK;simp at hL;simp[IC.nth,Qbw,Qc.c,rp,h0,h3];refine Qb (Qae hp o v (l:=[[32,115,101,101,110,32,98,121,32,97,108,108]]) (T:=9) (by simp; rfl) rfl (by simp) (by simp; omega)) ?_;simp;exact hK _ _ _ (by simp[h0,rp]) (by simp[h3,rp])
 |false =>
  have hF:Qgq false o=o:=rfl;simp only[hF]at hL hK;simp[IC.nth,Qbw,Qc.c,rp,h3];exact hK _ _ _ (by simp[h0,rp]) (by simp[h3,rp])
theorem QCE (hp:PrA H j q o0 v0) {x:Qc} (hn:x.seen.length<2147483648) (hE:∀ n∈x.seen,0<=n/\n<=1000000000) {res:ZG} (hL:res.length<=140737488355328) {N:Nat} {K:ZH}
 (ai:∀ U v G,U.get 0=rp j->K (.exit 2) U (wr H j q res v++(⟨x.c,78,0,true⟩::G))) :
 ∀ (m i:Nat) (o:ZG) (v:Nat) (G:ZI) (U:Env),i+m=x.seen.length->Qca (decide (i=0)) (x.seen.drop i) o=res->U.get 0=rp j->U.get 39=.slc (QE x.seen) x.seen.length->U.get 40=V x.seen.length->U.get 41=V i ->
  LI Tryz.prog N Qf QkO U (wr H j q o v++(⟨x.c,78,0,true⟩::G)) K:=by
 intro m
 induction m with
 |zero =>
  intro i o v G U hi hr h0 h39 h40 h41;refine Qp hm QkO.eq_1 ?_;have e:i=x.seen.length:=by omega
  subst e;rw[V7,Qca]at hr;subst hr;simp[h0,h39,h40,h41];exact ai _ _ _ (by simp)
 |succ m ih =>
  intro i o v G U hi hr h0 h39 h40 h41;refine Qp hm QkO.eq_1 ?_;have hlt:i<x.seen.length:=by omega
  have ax:(i:Int)<x.seen.length:=by omega
  have hg:=Qpg (l:=x.seen) (k:=i) (by simpa using hlt);have he:=hE x.seen[i] (Vp hlt);rw[VN hlt,Qca]at hr;have ih:=ih (i+1);generalize x.seen[i]=n at hg he hr;have hg:∀ h,(QE x.seen)[i]'(h)=V n:=λh=>hg;have hgr:=Qlx (x.seen.drop (i+1)) false (o++(if decide (i=0)=true then [32,115,101,101,110,32,98,121,32]else [44,32])++QaC n);rw[hr]at hgr;have hN:=λH=>Qft he.1 (by omega:n<=9223372036854775807) H;by_cases h00:i=0
  . subst h00;have hh:(QE x.seen).head?.getD .any=V n:=by
     rw[List.head?_eq_getElem?,Ve (by simpa using hlt),hg]; rfl
    simp at hgr;simp[h0,h39,h40,h41,hlt];refine⟨by omega,Qb (Qae hp o v (l:=[[32,115,101,101,110,32,98,121,32]]) (T:=9) (by simp; rfl) rfl (by simp) (by simp; omega)) ?_⟩;simp[h0,h39,h40,h41];rw[hh];refine Qb (hN _) ?_;simp[h0,h39,h40,h41];refine Qb (Qae hp _ (v+1) (l:=[QaC n]) (T:=9) (by simp; rfl) rfl (by simp) (by simp; omega)) ?_;simp[h0,h39,h40,h41];refine ih _ (v+2) _ _ (by omega) (by simpa using hr) ?_ ?_ ?_ ?_;all_goals first|(simp; done)|(simp; rfl)
  . simp[h00]at hgr;have h00':¬ (i:Int)=0:=by omega
    simp[h0,h39,h40,h41,hlt,ax,hg,h00];refine⟨by omega,Qb (Qae hp o v (l:=[[44,32]]) (T:=9) (by simp; rfl) rfl (by simp) (by simp; omega)) ?_⟩;simp[h0,h39,h40,h41];refine Qb (hN _) ?_;simp[h0,h39,h40,h41];refine Qb (Qae hp _ (v+1) (l:=[QaC n]) (T:=9) (by simp; rfl) rfl (by simp) (by simp; omega)) ?_;simp[h0,h39,h40,h41];refine ih _ (v+2) _ _ (by omega) (by simpa[h00]using hr) ?_ ?_ ?_ ?_;all_goals simp[Qaj (show i<9223372036854775807 by omega)]
def PE (H:ZI) (j q N:Nat) (b:AO) (p:IC) (F:ZG->ZG):Prop :=
 ∀ (K:ZH) (o:ZG) (v:Nat) (G:ZI) (U:Env),U.get 0=rp j->U.get 3=rp H.length->(F o).length<=140737488355328 ->
  (∀ U v' G',K .normal U (wr H j q (F o) v'++(b::G')))->X Tryz.prog N Qf p U (wr H j q o v++(b::G)) K
structure PEG (H:ZI) (j q N:Nat) (b:AO) (p:IC) (F:ZG->ZG):Prop where
 pc:PE H j q N b p F
 gr:Qaw F
theorem PG.seqE {N:Nat} {b:AO} {p r:IC} {F G:ZG->ZG} (h1:PG H j q N b p F) (h2:PEG H j q N b r G):PEG H j q N b (.seq p r) λo=>G (F o):=by
 refine⟨?_,λo=>Vf (h1.gr o) (h2.gr _)⟩;intro K o v L U h0 h3 hL hK;simp only[Qsf];refine h1.pc _ o v L U h0 h3 (Vf (h2.gr _) hL) λU v' G' h0 h3 => ?_;exact h2.pc _ _ _ _ _ h0 h3 hL hK
theorem Qwh (hp:PrA H j q o0 v0) {x:Qc} (hn:x.seen.length<2147483648) (hE:∀ n∈x.seen,0<=n/\n<=1000000000):PE H j q N ⟨x.c,78,0,true⟩ (IC.tl 4 Qbw) λo=>Qca true x.seen o++[59,10]:=by
 intro K o v L U h0 h3 hL hK;simp at hL;simp[IC.tl,Qbw,Qc.c,rp,h3];refine LI.cong (H':=wr H j q o v++(⟨x.c,78,0,true⟩::L)) rfl ?_;refine QCE hp hn hE (res:=Qca true x.seen o) (by omega) (λU v G h0 => ?_) x.seen.length 0 o v L _ (by omega) (by simp) (by simp[h0,rp]) (by simp) (by simp) (by simp);simp[h0,rp];refine Qb (Qae hp _ v (l:=[[59,10]]) (T:=9) (by simp; rfl) rfl (by simp) (by simp; omega)) ?_;simp;exact hK _ _ _
theorem QB1 {x:Qc} (hx:x.dl) (hE:∀ e∈x.wt,PrK 73 [e.v] (az e)):PrK 107 [.agg x.c] (Qe3 x):=by
 intro H j q o v hp hL;have hj:=hp.lj;refine QaY hm Tryz.func107 c107 (by simp[rp]) λZ => ?_;have h:=(PG.mk (Qxt (N:=Tryz.f107.ntmps) hp hx.lo hx.hi) (Qcr _)).seqE ((PG.mk (Qyf hp hx.wt.len hE) (Qcd QnN _)).seqE ((PG.mk (QyT hp x) (Qqn _)).seqE ⟨Qwh hp hx.len hx.seen,λo=>Vf (Qlx _ _ _) (Qcr _ _)⟩));rw[show Qbw=.seq (IC.nth 0 Qbw) (.seq (IC.nth 1 Qbw) (.seq (IC.nth 2 Qbw) (.seq (IC.nth 3 Qbw) (IC.tl 4 Qbw))))from rfl];generalize (IC.seq (IC.nth 1 Qbw) (.seq (IC.nth 2 Qbw) (.seq (IC.nth 3 Qbw) (IC.tl 4 Qbw))))=t at h;simp[IC.nth,Qbw];refine h.pc _ o v [] _ (by simp[rp]) (by simp[rp]) hL λU v' G => ?_;simp[r107];exact Qdf hp Z (by simp) _ rfl
end
def QeN (s:ZG) (o:ZG):ZG:=if s=[]then o else o++(s++[58,32])
theorem QxN (s:ZG):Qaw (QeN s):=λo=>by unfold QeN; split<;>simp
theorem Qo0 (a:Qh):Qaw (QdJ a):=λo=>by
 unfold QdJ;have h1:=Qpd a.go (fW Qew a.sets (Qf3 a.hid (fW Qd3 a.wh (o++([32,32,97,99,116,105,111,110,32]++a.nm)))++[32,123])++[32,125]);have h2:=Qcd Qnj a.sets (Qf3 a.hid (fW Qd3 a.wh (o++([32,32,97,99,116,105,111,110,32]++a.nm)))++[32,123]);have h3:=Qpu a.hid (fW Qd3 a.wh (o++([32,32,97,99,116,105,111,110,32]++a.nm)));have h4:=Qcd QnT a.wh (o++([32,32,97,99,116,105,111,110,32]++a.nm));simp at h1 h2 h3 h4 ⊢;omega
theorem QCH (x:Qc):Qaw (Qe3 x):=λo=>by
 unfold Qe3;refine Vf (Vf (Vf (Qcr _ o) (Qcd QnN _ _)) (Qqn _ _)) (Vf (Qlx _ _ _) (Qcr _ _))
def Qjl (w:Ex) (l:List Qh) (o:ZG):ZG:=fW QdJ l (az w (o++[116,117,114,110,32])++[32,123,10])++[125,10]
def Qgh (l:List Ex) (o:ZG):ZG:=QbG true (prF l) (o++[101,110,100,32,123,32,112,97,121,32])++[59,32,125,10]
theorem QDd (w:Ex) (l:List Qh):Qaw (Qjl w l):=λo=>by
 unfold Qjl;exact Vf (Vf (Qcr _ o) (Qc6 _ _)) (Vf (Vf (Qcr _ _) (Qcd Qo0 _ _)) (Qcr _ _))
theorem Qvs (l:List Ex):Qaw (Qgh l):=λo=>by
 unfold Qgh;exact Vf (Qcr _ o) (Vf (QhY _ _ (QhR l) _) (Qcr _ _))
def Qcs (x:Qc):ZG->ZG:=if x.k=1 then Qe3 x else if x.k=2 then(match x.who with|[]=>id|w::_=>Qjl w x.acts)else Qgh x.pays
theorem Qs6 (x:Qc):Qaw (Qcs x):=by
 unfold Qcs;split
 . exact QCH x
 . split
   . split
     . exact λo=>Vb _
     . exact QDd _ _
   . exact Qvs _
def QfI (x:Qc) (o:ZG):ZG:=Qcs x (QeN x.lb o)
theorem QrB (x:Qc):Qaw (QfI x):=λo=>Vf (QxN _ _) (Qs6 _ _)
def k50:IC:=match QcX with|.keep _ a=>a|a=>a
def b50:IC:=match IC.nth 2 k50 with|.blk _ a=>a|a=>a
theorem QD1:QcX=.keep [0,51,52,53] (.seq (IC.nth 0 k50) (.seq (IC.nth 1 k50) (.seq (IC.nth 2 k50) (IC.tl 3 k50)))):=rfl
theorem QAi:IC.nth 2 k50=.blk 3 (.seq (IC.nth 0 b50) (.seq (IC.nth 1 b50) (IC.tl 2 b50))):=rfl
section
variable {H:ZI} {j q v0 N:Nat} {o0:ZG}
theorem QxJ (hp:PrA H j q o0 v0) (x:Qc) {K:ZH} (o:ZG) (v:Nat) (G:ZI) (U:Env) (h0:U.get 0=rp j) (h7:U.get 7=rp H.length) (hL:(QeN x.lb o).length<=140737488355328)
 (hK:∀ aw v' G',(∀ k∈[0,7,51,52,53],aw.get k=U.get k)->K .normal aw (wr H j q (QeN x.lb o) v'++(⟨x.c,78,0,true⟩::G'))) :
 X Tryz.prog N Qf (IC.nth 1 b50) U (wr H j q o v++(⟨x.c,78,0,true⟩::G)) K:=by
 have hF:QeN x.lb o=if x.lb=[]then o else o++(x.lb++[58,32]):=rfl;obtain⟨k,lb,nm,lo,hi,wt,all,seen,who,acts,pays,p⟩:=x;by_cases h:lb=[]
 . subst h;simp only[Zv]at hF;simp only[hF]at hL hK;simp[IC.nth,b50,k50,QcX,Qc.c,rp,h7];exact hK _ _ _ (by simp)
 . simp only at hF hL hK;rw[Zq h]at hF;rw[hF]at hL hK;simp at hL;have hB:¬ B lb=B []:=λh'=>h (Qky.1 h');simp[IC.nth,b50,k50,QcX,Qc.c,rp,h0,h7,h];refine Qb (Qae hp o v (l:=[lb,[58,32]]) (T:=9) (by simp; rfl) rfl (by simp) (by simp; omega)) ?_;simp;exact hK _ _ _ (by simp)
theorem QCC (hp:PrA H j q o0 v0) {x:Qc} (hx:x.dl) (hk:x.k=1) {K:ZH} (o:ZG) (v:Nat) (G:ZI) (U:Env) (h0:U.get 0=rp j) (h7:U.get 7=rp H.length) (hL:(Qe3 x o).length<=140737488355328)
 (hK:∀ aw v' G',(∀ k∈[0,51,52,53],aw.get k=U.get k)->K .normal aw (wr H j q (Qe3 x o) v'++(⟨x.c,78,0,true⟩::G'))) :
 X Tryz.prog N Qf (IC.tl 2 b50) U (wr H j q o v++(⟨x.c,78,0,true⟩::G)) K:=by
 have h107:=QB1 hx λe he=>QgG e (hx.wt.prp e he);have key:=λL=>h107.at hp o v L hL;generalize Qe3 x o=o1 at hK key;obtain⟨k,lb,nm,lo,hi,wt,all,seen,who,acts,pays,p⟩:=x;simp only at hk; subst hk;simp only[Qc.c]at key hK;simp[IC.nth,IC.tl,b50,k50,QcX,Qc.c,rp,h0,h7,an];refine QQ (key _) ?_;rintro out H' ⟨rfl,v',rfl⟩;simp;exact hK _ _ _ (by simp)
theorem Qys (hp:PrA H j q o0 v0) {x:Qc} (hx:QbB x.pays) (hk:x.k=3) {K:ZH} (o:ZG) (v:Nat) (G:ZI) (U:Env) (h0:U.get 0=rp j) (h7:U.get 7=rp H.length) (hL:(Qgh x.pays o).length<=140737488355328)
 (hK:∀ aw v' G',(∀ k∈[0,51,52,53],aw.get k=U.get k)->K .normal aw (wr H j q (Qgh x.pays o) v'++(⟨x.c,78,0,true⟩::G'))) :
 X Tryz.prog N Qf (IC.tl 2 b50) U (wr H j q o v++(⟨x.c,78,0,true⟩::G)) K:=by
 have h109:=QtT hx.len λe he=>QgG e (hx.prp e he);unfold Qgh at hL hK;have hg:=QhY (prF x.pays) true (QhR x.pays) (o++[101,110,100,32,123,32,112,97,121,32]);have key:=λo v L h=>h109.at hp o v L h;simp at hL hg;generalize QbG true (prF x.pays)=f at *;obtain⟨k,lb,nm,lo,hi,wt,all,seen,who,acts,pays,p⟩:=x;simp only at hk; subst hk;simp only[Qc.c]at key hK;simp[IC.nth,IC.tl,b50,k50,QcX,Qc.c,rp,h0,h7,an];refine Qb (Qae hp o v (l:=[[101,110,100,32,123,32,112,97,121,32]]) (T:=9) (by simp; rfl) rfl (by simp) (by simp; omega)) ?_;simp;refine QQ (key _ _ _ (by omega)) ?_;rintro out H' ⟨rfl,v',rfl⟩;simp;refine Qb (Qae hp _ v' (l:=[[59,32,125,10]]) (T:=9) (by simp; rfl) rfl (by simp) (by simp; omega)) ?_;simp;exact hK _ _ _ (by simp)
theorem QBV (hp:PrA H j q o0 v0) {x:Qc} (hn:x.acts.length<2147483648) (hE:∀ a∈x.acts,PrK 108 [.agg a.c] (QdJ a)) {res:ZG} (hL:res.length<=140737488355328) {env0:Env} {K:ZH}
 (ai:∀ U v G,(∀ k∈[0,51,52,53],U.get k=env0.get k)->K (.exit 5) U (wr H j q res v++(⟨x.c,78,0,true⟩::G))) :
 ∀ (m i:Nat) (o:ZG) (v:Nat) (G:ZI) (U:Env),i+m=x.acts.length->fW QdJ (x.acts.drop i) o=res->(∀ k∈[0,51,52,53],U.get k=env0.get k)->U.get 0=rp j->U.get 97=.slc (rws Qh.c x.acts) x.acts.length->U.get 98=V x.acts.length->U.get 99=V i ->
  LI Tryz.prog N Qf Ql7 U (wr H j q o v++(⟨x.c,78,0,true⟩::G)) K:=by
 have hlen:=QaF Qh.c_len x.acts;intro m
 induction m with
 |zero =>
  intro i o v G U hi hr hks h0 h97 h98 h99;refine Qp hm Ql7.eq_1 ?_;have e:i=x.acts.length:=by omega
  subst e;rw[V7,fW]at hr;subst hr;simp[h0,h97,h98,h99];exact ai _ _ _ (by simpa[h0]using hks)
 |succ m ih =>
  intro i o v G U hi hr hks h0 h97 h98 h99;refine Qp hm Ql7.eq_1 ?_;have hlt:i<x.acts.length:=by omega
  have ax:(i:Int)<x.acts.length:=by omega
  have hg:=QfC (c:=Qh.c) Qh.c_len hlt;have he:=hE x.acts[i] (Vp hlt);rw[VN hlt,fW]at hr;have hgr:=Qcd Qo0 (x.acts.drop (i+1)) (QdJ x.acts[i] o);rw[hr]at hgr;have ih:=ih (i+1);generalize x.acts[i]=a at hg he hr hgr;have key:=λL=>he.at hp o v L (by omega);generalize QdJ a o=o1 at key hr hgr;simp[h0,h97,h98,h99,ax,hg,hlen];refine⟨by omega,QQ (key _) ?_⟩;rintro out H' ⟨rfl,v',rfl⟩;simp[h0,h97,h98,h99];refine ih _ v' _ _ (by omega) hr (by simpa[h0]using hks) ?_ ?_ ?_ ?_;all_goals simp[Qaj (show i<9223372036854775807 by omega)]
theorem QBA (hp:PrA H j q o0 v0) {x:Qc} (hx:x.tn) (hk:x.k=2) {K:ZH} (o:ZG) (v:Nat) (G:ZI) (U:Env) (h0:U.get 0=rp j) (h7:U.get 7=rp H.length) (hL:(Qcs x o).length<=140737488355328)
 (hK:∀ aw v' G',(∀ k∈[0,51,52,53],aw.get k=U.get k)->K .normal aw (wr H j q (Qcs x o) v'++(⟨x.c,78,0,true⟩::G'))) :
 X Tryz.prog N Qf (IC.tl 2 b50) U (wr H j q o v++(⟨x.c,78,0,true⟩::G)) K:=by
 obtain⟨w,hw⟩:∃ w,x.who=[w]:=by
  have:=hx.who1
  match h:x.who,this with
  |[w],_=>exact⟨w,rfl⟩
 have hF:Qcs x o=Qjl w x.acts o:=by
  unfold Qcs;rw[Zq (by omega),Zr hk,hw]
 rw[hF]at hL hK;unfold Qjl at hL hK;have hwp:w.prp:=hx.who.prp w (by rw[hw]; simp);have key:=λo v L h=>(QgG w hwp).at hp o v L h;have hA:∀ a∈x.acts,PrK 108 [.agg a.c] (QdJ a):=λa ha=>by
  have h:=hx.acts a ha;exact Qx7 h.wh.len h.len (λe he=>QgG e (h.wh.prp e he)) λs hs=>QgG s.e ((h.sets s hs).e.prp s.e (by simp))
 have g1:=Qc6 w (o++[116,117,114,110,32]);have g2:=Qcd Qo0 x.acts (az w (o++[116,117,114,110,32])++[32,123,10]);have hln:=hx.len;generalize ag:fW QdJ x.acts (az w (o++[116,117,114,110,32])++[32,123,10])=res at *;simp at hL g1 g2;have hlp:=λ(K:ZH) env0=>QBV (N:=N) (env0:=env0) (K:=K) hp hln hA (res:=res) (by omega);have hcw:an x.who=.slc w.c 1:=by rw[hw]; simp[an,Ex.cL]
 have hxc:x.c=[V 2,st (B x.lb),st (B x.nm),V x.lo,V x.hi,an x.wt,bl x.all,.slc (QE x.seen) x.seen.length,.slc w.c 1,.slc (rws Qh.c x.acts) x.acts.length,an x.pays,V x.p]:=by
  rw[<-hcw,<- hk]; rfl
 have hc5:=Ex.c_len w;have hcc:=Ex.take5 w;simp only[Ex.v_c]at key;rw[hxc]at hK hlp ⊢;generalize w.c=wc at *;simp[IC.nth,IC.tl,b50,k50,QcX,rp,h0,h7];refine Qb (Qae hp o v (l:=[[116,117,114,110,32]]) (T:=9) (by simp; rfl) rfl (by simp) (by simp; omega)) ?_;simp[hc5,hcc];refine QQ (key (o++[116,117,114,110,32]) _ _ (by omega)) ?_;rintro out H' ⟨rfl,v',rfl⟩;simp;refine Qb (Qae hp _ v' (l:=[[32,123,10]]) (T:=9) (by simp; rfl) rfl (by simp) (by simp; omega)) ?_;simp[hcc];refine hlp _ U (λaw v G' hks => ?_) x.acts.length 0 _ _ _ _ (by omega) (by simpa using ag) (by simp) (by simp[rp,h0]) (by simp) (by simp) (by simp);have h0':aw.get 0=rp j:=by rw[hks 0 (by simp),h0]
 simp[rp,h0'];refine Qb (Qae hp _ _ (l:=[[125,10]]) (T:=9) (by simp; rfl) rfl (by simp) (by simp; omega)) ?_;simp;exact hK _ _ _ (by simpa[h0,rp,h0']using hks)
def SwK (H:ZI) (j q N:Nat) (x:Qc):Prop:=∀ {v0:Nat} {o0:ZG} (_:PrA H j q o0 v0) {K:ZH} (o:ZG) (v:Nat) (G:ZI) (U:Env),U.get 0=rp j->U.get 7=rp H.length->(Qcs x o).length<=140737488355328 ->
 (∀ aw v' G',(∀ k∈[0,51,52,53],aw.get k=U.get k)->K .normal aw (wr H j q (Qcs x o) v'++(⟨x.c,78,0,true⟩::G'))) ->
 X Tryz.prog N Qf (IC.tl 2 b50) U (wr H j q o v++(⟨x.c,78,0,true⟩::G)) K
theorem QrU {x:Qc} (hk:x.k=3) (hx:x.prp):SwK H j q N x:=by
 intro v0 o0 hp K o v G U h0 h7 hL hK;have hF:Qcs x o=Qgh x.pays o:=by unfold Qcs; rw[Zq (by omega),Zq (by omega)]
 rw[hF]at hL hK;rcases hx.kd with ⟨hk',_⟩|⟨hk',_⟩|⟨_,he⟩
 . omega
 . omega
 . exact Qys hp he.pays hk o v G U h0 h7 hL hK
theorem sw50 {x:Qc} (hx:x.prp):SwK H j q N x:=by
 rcases hx.kd with ⟨hk,hd,e1,e2,e3⟩|⟨hk,he⟩|⟨hk,he⟩
 . intro v0 o0 hp K o v G U h0 h7 hL hK;have hF:Qcs x o=Qe3 x o:=by unfold Qcs; rw[Zr hk]
   rw[hF]at hL hK;exact QCC hp hd hk o v G U h0 h7 hL hK
 . intro v0 o0 hp K o v G U h0 h7 hL hK;exact QBA hp he hk o v G U h0 h7 hL hK
 . exact QrU hk hx
end
section
variable {c:Cx} {r:Rd}
theorem QDX (hb:QdM c r=false):Qbb c r=false/\QV c r=false/\Qd c [110,111,116] r=false/\Qd c [45] r=false/\Qd c [40] r=false/\Qd c [109,105,110] r=false/\Qd c [109,97,120] r=false/\Qd c [105,102] r=false:=by
 unfold QdM at hb;simpa[Zd,and_assoc]using hb
theorem QCi {aa:List (ZG×Int)} {F:Rd->Ex×Rd} (h:(F r).2.e≠0):(Q0 c aa F r).2=(F r).2:=by
 unfold Q0; rw[Qnh h]
theorem QvE (he:r.e=0) (hb:QdM c r=false) (d:Nat):(QaT c (lv c d) r).2=Qg c 11 r:=by
 obtain⟨h1,h2,h3,h4,h5,h6,h7,h8⟩:=QDX hb;have hfe:(Qg c 11 r).e≠0:=by simp[Qg,he]
 have hf:∀ orP facP,(QC c orP facP r).2=Qg c 11 r:=by
  intro orP facP;unfold QC;have hw:Qan.find? (λw=>Qd c w.1 r)=none:=by simp[Qan,h6,h7,h8]
  rw[Zq (by simp[he]),Zq (by simp[h2]),Zq (by simp[h4]),Zq (by simp[h5]),hw];simp[nmR,h1]
 have hb2:∀ aa (F:Rd->Ex×Rd),(F r).2=Qg c 11 r->(Q0 c aa F r).2=Qg c 11 r:=λaa F h=>by
  rw[QCi (by rw[h]; exact hfe),h]
 have hn:∀ orP facP ntP,(Qal c (Qhw c (QC c orP facP)) ntP r).2=Qg c 11 r:=by
  intro orP facP ntP;unfold Qal;rw[Zq (by simp[h3])];unfold Qhw Qaz;have h9:=hb2 QaZ _ (hb2 QaV _ (hf orP facP));rw[h9,Qfz hfe];exact h9
 have hnt:((lv c d).nt r).2=Qg c 11 r:=by
  cases d with
  |zero=>exact hn _ _ _
  |succ d=>exact hn _ _ _
 exact hb2 orO _ (hb2 QaU _ hnt)
def Qbk (c:Cx) (full:Bool) (r:Rd):ZG×Rd:=QX c (if full=true/\QV c r=true then Qg c 12 r else r)
def QcA (c:Cx) (full:Bool) (r:Rd):Int×Rd:=nmR c (if full=true/\Qbb c r=true then Qg c 12 r else r)
end
theorem Qad {α:Type} {c:Cx} {j k:Nat} {args:ZJ} {G:ZI} {f:α->SV} {q:α×Rd} {K:Out->ZI->Prop} (h:OkP Tryz.prog k args G (PdV c G j f q))
 (hok:q.2.e=0->K (.ret (f q.1)) (G.set j (ae c q.2))) (hbad:q.2.e≠0->∀ H',Qu G [j] H'->K (.pan (QZ q.2.e q.2.p)) H'):QdS Tryz.prog (.fn (.func k) [] []) args G K:=by
 refine QQ h ?_;intro o H' hp;unfold PdV at hp;by_cases he:q.2.e=0
 . rw[Zr he]at hp; obtain⟨rfl,rfl⟩:=hp; exact hok he
 . rw[Zq he]at hp; obtain⟨rfl,hk⟩:=hp; exact hbad he H' hk
theorem PdV.pan {α:Type} {c:Cx} {j:Nat} {f:α->SV} {G H':ZI} {q:α×Rd} (he:q.2.e≠0) (h:Qu G [j] H'):PdV c G j f q (.pan (QZ q.2.e q.2.p)) H':=by
 unfold PdV; rw[Zq he]; exact⟨rfl,h⟩
theorem PdV.ret {α:Type} {c:Cx} {j:Nat} {f:α->SV} {G H':ZI} {q:α×Rd} (he:q.2.e=0) (h:H'=G.set j (ae c q.2)):PdV c G j f q (.ret (f q.1)) H':=by
 unfold PdV; rw[Zr he]; exact⟨rfl,h⟩
theorem PdV.fail {α:Type} {c:Cx} {j:Nat} {f:α->SV} {G H':ZI} {q:α×Rd} {r:Rd} {e:Int} (hr:r.e=0) (he:e≠0) (hq:q.2=Qg c e r) (h:Qu G [j] H'):PdV c G j f q (.pan (QZ e (Qm c r))) H':=by
 have f1:(Qg c e r).e=e/\(Qg c e r).p=Qm c r:=by simp[Qg,hr]
 have:=PdV.pan (c:=c) (f:=f) (q:=q) (by rw[hq,f1.1]; exact he) h
 rwa [hq,f1.1,f1.2]at this
theorem PdV.got {α:Type} {c:Cx} {j:Nat} {f:α->SV} {G H':ZI} {q:α×Rd} {x:α} {r:Rd} {o:Out} (he:r.e=0) (hq:q=(x,r)) (ho:o=.ret (f x)) (h:H'=G.set j (ae c r)):PdV c G j f q o H':=by
 subst hq ho; exact PdV.ret (q:=(x,r)) he h
theorem QBN {c:Cx} {r:Rd} (he:r.e=0) (hp:QV c r=true):(Qbk c true r).2=Qg c 12 r:=by
 have hb:(Qg c 12 r).e≠0:=by simp[Qg,he]
 unfold Qbk;rw[Zr ⟨rfl,hp⟩];unfold QX;rw[QmI hb,Qgl hb]; rfl
theorem Qyy {c:Cx} {r:Rd} (hp:QV c r=true):Qbk c false r=((tkR c r).tx,Qa r):=by
 have hlt:=(QcV hp).2.1;unfold Qbk;rw[Zq (by simp)];unfold QX;rw[Zr hp]; simp[tkR,hlt,List.getD]
theorem Qx1 {c:Cx} {r:Rd} (full:Bool) (hp:QV c r=false):(Qbk c full r).2=Qg c 11 r:=by
 unfold Qbk;rw[Zq (by simp[hp])];unfold QX;rw[hp]; rfl
theorem QvL {c:Cx} {r:Rd} (he:r.e=0) (hp:Qbb c r=true):(QcA c true r).2=Qg c 12 r:=by
 have hb:(Qg c 12 r).e≠0:=by simp[Qg,he]
 unfold QcA;rw[Zr ⟨rfl,hp⟩];unfold nmR;rw[QsN hb,Qgl hb]; rfl
theorem QBc {c:Cx} {r:Rd} (hp:Qbb c r=true):QcA c false r=((tkR c r).n,Qa r):=by
 have hlt:=(QcV hp).2.1;unfold QcA;rw[Zq (by simp)];unfold nmR;rw[Zr hp]; simp[tkR,hlt,List.getD]
theorem Qxf {c:Cx} {r:Rd} (full:Bool) (hp:Qbb c r=false):(QcA c full r).2=Qg c 11 r:=by
 unfold QcA;rw[Zq (by simp[hp])];unfold nmR;rw[hp]; rfl
def exN (l:List Ex):SV:=if l=[]then nl else an l
def inN (l:List Int):SV:=if l=[]then nl else .slc (QE l) l.length
section
variable {H:ZI} {c:Cx} {r:Rd} {j:Nat}
theorem QmU (ho:H[j]? = some (ae c r)) (hl:r.a<4611686018427387904) (he:r.e=0) (full:Bool):OkP Tryz.prog 88 [rp j,bl full] H (PdV c H j (λs=>st (B s)) (Qbk c full r)):=by
 have hj:=Qk ho;have h92:=QhS ho he;have h140:=Qgy ho hl;have h11:=Qdk ho 11;have h12:=Qdk ho 12;refine QaY hm Tryz.func88 c88 (by simp[rp]) λZ => ?_;simp[i88,r88,rp];refine Qb (by simpa[rp]using h92) ?_;by_cases hp:QV c r=true
 . cases full with
   |true =>
    simp[hp];refine Qb (by simpa[rp]using h12) ?_;simp;exact⟨_,_,PdV.fail he (by decide) (QBN he hp) (Qu.refl _ _),Qi⟩
   |false =>
    simp[hp];refine Qb (by simpa[rp]using h140) ?_;simp[Tok.v,Tok.c];exact⟨_,_,PdV.got (r:=Qa r) he (Qyy hp) rfl rfl,Qi⟩
 . rw[Vm]at hp;simp[hp];refine Qb (by simpa[rp]using h11) ?_;simp;exact⟨_,_,PdV.fail he (by decide) (Qx1 full hp) (Qu.refl _ _),Qi⟩
theorem QiB (ho:H[j]? = some (ae c r)) (hl:r.a<4611686018427387904) (he:r.e=0) (full:Bool):OkP Tryz.prog 89 [rp j,bl full] H (PdV c H j V (QcA c full r)):=by
 have hj:=Qk ho;have h139:=Qex ho;have h140:=Qgy ho hl;have h11:=Qdk ho 11;have h12:=Qdk ho 12;have hnt:=QkW (c:=c) he;refine QaY hm Tryz.func89 c89 (by simp[rp]) λZ => ?_;simp[i89,r89,rp];refine Qb (by simpa[rp]using h139) ?_;by_cases hp:Qbb c r=true
 . have hk:(tkR c r).k=2:=by rw[hp]at hnt; exact Zy hnt.symm
   cases full with
   |true =>
    simp[Tok.v,Tok.c,hk];refine Qb (by simpa[rp]using h12) ?_;simp;exact⟨_,_,PdV.fail he (by decide) (QvL he hp) (Qu.refl _ _),Qi⟩
   |false =>
    simp[Tok.v,Tok.c,hk];refine Qb (by simpa[rp]using h140) ?_;simp[Tok.v,Tok.c];exact⟨_,_,PdV.got (r:=Qa r) he (QBc hp) rfl rfl,Qi⟩
 . rw[Vm]at hp;have hk:¬ (tkR c r).k=2:=by rw[hp]at hnt; exact of_decide_eq_false hnt.symm
   simp[Tok.v,Tok.c,hk];refine Qb (by simpa[rp]using h11) ?_;simp;exact⟨_,_,PdV.fail he (by decide) (Qxf full hp) (Qu.refl _ _),Qi⟩
theorem Qc4 {s:ZG} (hp:Qd c s r=true):t2 c s r=Qa r:=by simp[t2,Qj,hp]
theorem Qqm (hn:Q2 c) {d:Nat} {F:Rd->Ex×Rd} (hF:PdC c 32 [] F d) {s:ZG} (hs:Qdc s=true) (ho:H[j]? = some (ae c r)) (hl:c.ts.length<4611686018427387904) (hg:Gd c d r) (he:r.e=0) :
 OkP Tryz.prog 181 [rp j,st (B s),.fn (.func 32) [rp j] []] H (PdV c H j exN (Qbm c F s r)):=by
 have hj:=Qk ho;have ha:=hg.a;have h90:=QdH hn ho (by omega) he hs;refine QaY hm Tryz.func181 c181 (by simp[rp]) λZ => ?_;simp[i181,r181,rp];refine Qb (by simpa[rp]using h90) ?_;unfold Qab;by_cases hp:Qd c s r=true
 . have hg2:=hg.next (QaP hp)
   have hc:=hF (G:=H.set j (ae c (Qa r))) (j:=j) (r:=Qa r) (by simp[hj]) hg2 he;have hopt:Qbm c F s r=([(F (Qa r)).1],(F (Qa r)).2):=by unfold Qbm; rw[Zr hp,Qc4 hp]
   rw[hopt];simp[hp];refine QtR (a:=[rp j]) (b:=[]) (by simpa[rp]using hc) ?_;intro o H' hq;unfold PdP PdV at hq;generalize F (Qa r)=q at hq ⊢;by_cases ah:q.2.e=0
   . rw[Zr ah]at hq;obtain⟨rfl,rfl⟩:=hq;rw[VF];simp[Ex.v];refine⟨_,_,PdV.ret (q:=([q.1],q.2)) ah rfl,?_⟩;refine Qq 3 (QbQ (c:=c) (a:=q.2.a) (v:=q.2.v) Z) (by simp) ?_;simp[exN,an,Ex.cL]
   . rw[Zq ah]at hq;obtain⟨rfl,hk⟩:=hq;simp;exact⟨_,_,PdV.pan (q:=([q.1],q.2)) ah ((Qu.set (by simp) _).trans hk),Qi⟩
 . have hopt:Qbm c F s r=([],r):=by unfold Qbm; rw[Zq hp]
   rw[hopt];simp[hp];refine⟨_,_,PdV.got (r:=r) he rfl (o:=.ret nl) rfl (QcZ ho).symm,?_⟩;rw[QcZ ho];exact Qi
def wdN (l:ZF):SV:=if l=[]then nl else .slc (wds l) l.length
theorem QAG (hn:Q2 c) {F:Rd->ZG×Rd} {f:SV} (hvd:f.vd=true) (hug:f.ug=f) (hfu:f.under H.length=true) {s:ZG} (hs:Qdc s=true) (ho:H[j]? = some (ae c r)) (hl:c.ts.length<4611686018427387904) (ha:r.a<=c.ts.length) (he:r.e=0)
 (hF:Qd c s r=true->QeY Tryz.prog f [] (H.set j (ae c (Qa r))) (PdV c (H.set j (ae c (Qa r))) j (λs=>st (B s)) (F (Qa r)))) :
 OkP Tryz.prog 202 [rp j,st (B s),f] H (PdV c H j wdN (if Qd c s r=true then([(F (Qa r)).1],(F (Qa r)).2)else([],r))):=by
 have hj:=Qk ho;have hopt1:Qd c s r=true->(if Qd c s r=true then([(F (Qa r)).1],(F (Qa r)).2)else(([],r):ZF×Rd))=([(F (Qa r)).1],(F (Qa r)).2):=λh=>Zr h;have hopt2:¬ Qd c s r=true->(if Qd c s r=true then([(F (Qa r)).1],(F (Qa r)).2)else(([],r):ZF×Rd))=([],r):=λh=>Zq h;generalize (if Qd c s r=true then([(F (Qa r)).1],(F (Qa r)).2)else(([],r):ZF×Rd))=res at hopt1 hopt2 ⊢;have h90:=QdH hn ho (by omega) he hs;refine QaY hm Tryz.func202 c202 (by simp[rp]) λZ => ?_;simp[i202,r202,rp];refine Qb (by simpa[rp]using h90) ?_;unfold Qab;by_cases hp:Qd c s r=true
 . have hc:=hF hp;rw[hopt1 hp];clear hopt1 hopt2;simp[hp];refine Qre hc ?_;intro o H' hq;unfold PdV at hq;generalize F (Qa r)=q at hq ⊢;by_cases ah:q.2.e=0
   . rw[Zr ah]at hq;obtain⟨rfl,rfl⟩:=hq;rw[VF];simp;refine⟨_,_,PdV.ret (q:=([q.1],q.2)) ah rfl,?_⟩;refine Qq 3 (QbQ (c:=c) (a:=q.2.a) (v:=q.2.v) Z) (by simp) ?_;simp[wdN,wds]
   . rw[Zq ah]at hq;obtain⟨rfl,hk⟩:=hq;simp;exact⟨_,_,PdV.pan (q:=([q.1],q.2)) ah ((Qu.set (by simp) _).trans hk),Qi⟩
 . rw[hopt2 hp];simp[hp];refine⟨_,_,PdV.got (r:=r) he rfl (o:=.ret nl) rfl (QcZ ho).symm,?_⟩;rw[QcZ ho];exact Qi
theorem QyW (hn:Q2 c) (ho:H[j]? = some (ae c r)) (he:r.e=0):Ok Tryz.prog 183 [rp j] H (.ret (bl (QdM c r))) H:=by
 have hj:=Qk ho;have h92:=QhS ho he;have h139:=Qex ho;have hnt:=QkW (c:=c) he;have h93:=Qf9 (H:=H++[⟨[st (B [110,111,116]),st (B [45]),st (B [40]),st (B [109,105,110]),st (B [109,97,120]),st (B [105,102])],9,0,true⟩]) (c:=c) (r:=r) (j:=j) (by rw[Vc hj]; exact ho) (x:=.own H.length 0 6 1 0) (l:=[[110,111,116],[45],[40],[109,105,110],[109,97,120],[105,102]]) (IsS.own1 (k:=0) rfl rfl) (by simp);have hb:QdM c r=(QV c r||Qbb c r||decide ((tkR c r).tx∈[[110,111,116],[45],[40],[109,105,110],[109,97,120],[105,102]])):=by
  unfold QdM;rw[Qc2 hn (s:=[110,111,116]) rfl he,Qc2 hn (s:=[45]) rfl he,Qc2 hn (s:=[40]) rfl he,Qc2 hn (s:=[109,105,110]) rfl he,Qc2 hn (s:=[109,97,120]) rfl he,Qc2 hn (s:=[105,102]) rfl he];rw[Bool.eq_iff_iff];simp[or_assoc];constructor
  . rintro(h|h|h)<;>simp[h]
  . rintro(h|h|h)<;>simp[h]
 rw[hb];refine Qt hm Tryz.func183 c183 (by simp[rp]) λZ => ?_;simp[i183,r183,rp];refine Qb (by simpa[rp]using h92) ?_;by_cases hf:QV c r=true
 . simp[hf];refine Qcf _ _ _ _ ?_;simp[hf];refine Qcf _ _ _ _ ?_;simp[hf];exact Qi
 . rw[Vm]at hf;simp[hf];refine QL (r:=(tkR c r).v) (λ_=>by simpa[rp,SV.strip]using h139) ?_;by_cases hk:Qbb c r=true
   . have hk2:(tkR c r).k=2:=by rw[hk]at hnt; exact Zy hnt.symm
     simp[hf,Tok.v,Tok.c,hk2];refine Qcf _ _ _ _ ?_;simp[hf,hk,Tok.v,Tok.c,hk2];exact Qi
   . rw[Vm]at hk;have hk2:¬ (tkR c r).k=2:=by rw[hk]at hnt; exact of_decide_eq_false hnt.symm
     simp[hf,Tok.v,Tok.c,hk2];refine QL (r:=bl (decide ((tkR c r).tx∈[[110,111,116],[45],[40],[109,105,110],[109,97,120],[105,102]]))) (λ_=>by simpa[rp,SV.strip]using h93) ?_;simp[hf,hk,Tok.v,Tok.c,hk2];exact Qq 2 Z rfl rfl
end
def w2 (H:ZI) (j k:Nat) (o p:AO):ZI:=(H.set j o).set k p
structure J2 (H:ZI) (j k:Nat):Prop where
 lj:j<H.length
 lk:k<H.length
 ne:j≠k
section
variable {H:ZI} {j k:Nat} {o p:AO}
@[simp] theorem Qlu:(w2 H j k o p).length=H.length:=by simp[w2]
theorem QbI (h:J2 H j k) (L:ZI):(w2 H j k o p++L)[j]? = some o:=by
 rw[Vc (by simpa using h.lj),w2,Vg (Ne.symm h.ne),Vq h.lj]
theorem QjY (h:J2 H j k) (L:ZI):(w2 H j k o p++L)[k]? = some p:=by
 rw[Vc (by simpa using h.lk),w2,Vq (by simpa using h.lk)]
theorem Qa7 (h:J2 H j k) (L:ZI) (o':AO):(w2 H j k o p++L).set j o'=w2 H j k o' p++L:=by
 rw[Vn _ _ (by simpa using h.lj),w2,List.set_comm _ _ (Ne.symm h.ne),VF]; rfl
theorem Qq0 (h:J2 H j k) (L:ZI) (p':AO):(w2 H j k o p++L).set k p'=w2 H j k o p'++L:=by
 rw[Vn _ _ (by simpa using h.lk),w2,VF]; rfl
theorem QfE (h:J2 H j k) (cs:ZJ) (T:ZM) (L:ZI):Qo (w2 H j k o ⟨cs,T,0,true⟩++L) k 0=cs:=Q7 (o:=⟨cs,T,0,true⟩) (QjY h L) rfl
theorem Qf5 (h:J2 H j k) (L:ZI) (f:AO->AO):Ab.setObj (w2 H j k o p++L) k f=w2 H j k o (f p)++L:=by
 rw[Qcn (QjY h L),Qq0 h]
theorem QmW (h1:H[j]? = some o) (h2:H[k]? = some p):w2 H j k o p=H:=by
 rw[w2,QcZ h1,QcZ h2]
@[simp] theorem QIH (L:ZI) (i ver:Nat):Qo (w2 H j k o p++L) (H.length+i) ver=Qo L i ver:=by
 have:=QgN (H:=w2 H j k o p) (L:=L) (k:=i) (ver:=ver); simpa using this
@[simp] theorem QFu (L:ZI) (i:Nat) (f:AO->AO):Ab.setObj (w2 H j k o p++L) (H.length+i) f=w2 H j k o p++Ab.setObj L i f:=by
 have:=QkD (H:=w2 H j k o p) (L:=L) (k:=i) (f:=f); simpa using this
@[simp] theorem QFL (L:ZI) (i ver:Nat) (T:ZM) (m:Nat):QbC (w2 H j k o p++L) (H.length+i) ver T m=QbC L i ver T m:=by
 have:=Qpz (H:=w2 H j k o p) (L:=L) (k:=i) (ver:=ver) (T:=T) (m:=m); simpa using this
theorem Qu.w2 {H' L:ZI} (hJ:J2 H j k) (h:Qu (w2 H j k o p++L) [j] H'):Qu H [j,k] H':=by
 refine⟨Vf (by simp) h.len,λi hi hn => ?_⟩;simp only[Vd,Vu,Zw,not_or]at hn;rw[h.at_ i (by simp; omega) (by simp[hn.1]),Vc (by simpa using hi),Proofs.YtmkdpmfhlfhjkaaGreatDoor.w2,Vg (Ne.symm hn.2),Vg (Ne.symm hn.1)]
end
structure Rw (n:Nat) (L:ZI) (x y:SV):Prop where
 cell:x.isCell=true
 ycell:y.isCell=true
 fz:∀ M d,SV.fz n [] (L++M) (d+2) x=y
theorem Rw.und {n:Nat} {L:ZI} {x:SV} (h:x.isCell=true) (hu:x.under n=true):Rw n L x x:=⟨h,h,λM d=>Qdl hu⟩
theorem Rw.own {n q m sz ver T:Nat} {L:ZI} {cells:ZJ} (h:L[q]? = some ⟨cells,T,ver,true⟩) (hl:cells.length=m*sz) (hu:SV.underL n cells=true):Rw n L (.own (n+q) 0 m sz ver) (.slc cells m):=by
 refine⟨rfl,rfl,λM d => ?_⟩;have hq:(L++M)[q]? = some ⟨cells,T,ver,true⟩:=by rw[Vc (Qk h)]; exact h
 have hnu:¬ (SV.own (n+q) 0 m sz ver).under n=true:=by simp[SV.under]
 have e:n+q-n=q:=by omega
 have hp:Qbf [] q=none:=rfl;rw[SV.fz,Zq hnu];simp only[e,hq,hp];rw[Zr ⟨trivial,trivial,by simp[hl]⟩];simp only[Yr];rw[VD (by omega),QcY _ _ _ _ hu]
def acN (l:List Qh):SV:=if l=[]then nl else .slc (rws Qh.c l) l.length
def Qc.cN (x:Qc):ZJ:=[V x.k,st (B x.lb),st (B x.nm),V x.lo,V x.hi,exN x.wt,bl x.all,inN x.seen,exN x.who,acN x.acts,exN x.pays,V x.p]
def stO (x:Qc):AO:=⟨Qc.cN x,78,0,true⟩
theorem QjW (l:List Ex):SV.le (exN l) (an l):=by
 unfold exN; split
 . rename_i h; subst h; exact QdA
 . exact SV.le.refl _
theorem QzN (l:List Int):SV.le (inN l) (.slc (QE l) l.length):=by
 unfold inN; split
 . rename_i h; subst h; exact QdA
 . exact SV.le.refl _
theorem Qv9 (l:List Qh):SV.le (acN l) (.slc (rws Qh.c l) l.length):=by
 unfold acN; split
 . rename_i h; subst h; exact QdA
 . exact SV.le.refl _
theorem Qxa (x:Qc):leL (Qc.cN x) (Qc.c x) :=
 leL.cons (SV.le.refl _) (leL.cons (SV.le.refl _) (leL.cons (SV.le.refl _) (leL.cons (SV.le.refl _) (leL.cons (SV.le.refl _) (leL.cons (QjW _) (leL.cons (SV.le.refl _) (leL.cons (QzN _) (leL.cons (QjW _) (leL.cons (Qv9 _) (leL.cons (QjW _) (leL.cons (SV.le.refl _) leL.nil)))))))))))
@[simp] theorem Qzp (l:List Ex):(exN l).isCell=true:=by unfold exN; split<;>rfl
@[simp] theorem QFr (l:List Int):(inN l).isCell=true:=by unfold inN; split<;>rfl
@[simp] theorem QFD (l:List Qh):(acN l).isCell=true:=by unfold acN; split<;>rfl
@[simp] theorem QtN (n:Nat) (l:List Ex):(exN l).under n=true:=by unfold exN; split<;>simp[an,SV.under,Ex.undL]
@[simp] theorem QGV (n:Nat) (l:List Int):(inN l).under n=true:=by unfold inN; split<;>simp[SV.under]
@[simp] theorem QF6 (n:Nat) (l:List Qh):(acN l).under n=true:=by unfold acN; split<;>simp[SV.under,Qfj (Qh.und _)]
@[simp] theorem exN_vd (l:List Ex):(exN l).vd=true:=by unfold exN; split<;>rfl
@[simp] theorem QHz (l:List Ex):(exN l).flat=[exN l]:=by unfold exN; split<;>rfl
@[simp] theorem exN_ug (l:List Ex):(exN l).ug=exN l:=by unfold exN; split<;>rfl
def PdS (c:Cx) (G:ZI) (j k:Nat) (q:Qc×Rd) (o:Out) (H':ZI):Prop :=
 if q.2.e=0 then o=.ret (.tup [])/\H'=w2 G j k (ae c q.2) (stO q.1)else o=.pan (QZ q.2.e q.2.p)/\Qu G [j,k] H'
section
variable {H:ZI} {c:Cx} {r:Rd} {j k:Nat}
theorem PdS.ret {G H':ZI} {q:Qc×Rd} (he:q.2.e=0) (h:H'=w2 G j k (ae c q.2) (stO q.1)):PdS c G j k q (.ret (.tup [])) H':=by unfold PdS; rw[Zr he]; exact⟨rfl,h⟩
theorem PdS.pan {G H':ZI} {q:Qc×Rd} (he:q.2.e≠0) (h:Qu G [j,k] H'):PdS c G j k q (.pan (QZ q.2.e q.2.p)) H':=by unfold PdS; rw[Zq he]; exact⟨rfl,h⟩
theorem Qyc {p:AO} (Z:closed H) (hJ:J2 H j k):∀ (i:Nat) (o:AO),i≠k->(w2 H j k (ae c r) p)[i]? = some o->∀ s∈o.cells,s.under H.length=true:=by
 intro i o hi ho s hs;rw[w2,Vg (Ne.symm hi)]at ho;by_cases hij:i=j
 . subst hij;rw[Vq hJ.lj]at ho
   cases ho
   exact(SV.underL_iff _ _).1 (Qui _ _ _ _) s hs
 . rw[Vg (Ne.symm hij)]at ho;exact Z i o ho s hs
theorem QoL {n0:Nat} (hn0:n0=H.length) (Z:closed H) (hJ:J2 H j k) {cells:ZJ} {x:Qc} {L:ZI} (hfz:cells.map (SV.fz H.length [] L 3)=Qc.cN x) :
 Cv n0 (.tup []) (w2 H j k (ae c r) ⟨cells,78,0,true⟩++L) (.tup []) (w2 H j k (ae c r) (stO x)):=by
 have hk0:=QjY (o:=ae c r) (p:=⟨cells,78,0,true⟩) hJ [];rw[VE]at hk0;have hz:=Qd0.one (H0:=w2 H j k (ae c r) ⟨cells,78,0,true⟩) (L:=L) (ks:=[]) (d:=3) (j:=k) (o:=⟨cells,78,0,true⟩) (by rw[Qlu]; exact Qyc Z hJ) hk0 rfl (by
  rw[Qlu,hfz];intro s hs;simp[Qc.cN]at hs;rcases hs with rfl|rfl|rfl|rfl|rfl|rfl|rfl|rfl|rfl|rfl|rfl|rfl<;>simp)
 rw[Qlu,hfz]at hz;have hs:(w2 H j k (ae c r) ⟨cells,78,0,true⟩).set k ⟨Qc.cN x,78,0,true⟩=w2 H j k (ae c r) (stO x):=by rw[w2,VF]; rfl
 rw[hs]at hz;have:=QA3 (n0:=n0) (r:=.tup []) (Hx:=w2 H j k (ae c r) ⟨cells,78,0,true⟩++L) 3 rfl (by rw[Qlu,hn0]; exact Vb _) hz;exact this
theorem QEi {s:ZG}:Qab c s r=if Qd c s r=true then Qa r else r:=rfl
theorem QfA (hn:Q2 c) (hct:c.ts.length<4611686018427387904) (hJ:J2 H j k) {p:AO} {L:ZI} {q n T ver:Nat} {l:ZF} (hL:L[q]? = some ⟨wds l,T,ver,true⟩) (hn':n=l.length) (hl:l.length<4611686018427387904) (hw:∀ s∈l,Qdc s=true) (he:r.e=0) (ha:r.a<=c.ts.length) :
 OkP Tryz.prog 87 [rp j,.own (H.length+q) 0 n 1 ver] (w2 H j k (ae c r) p++L) (PdV c (w2 H j k (ae c r) p++L) j (λ_:Unit=>.tup []) ((),QcF c l r)):=by
 refine Qle hn (QbI hJ L) (λo => ?_) hl hct hw he ha;have:=Qlg (G:=w2 H j k (ae c r) p) (L:=L) (j:=j) (k:=q) (by simpa using hJ.lj) hL hn' o;simpa using this
end
theorem Qzr {c:Cx} {r:Rd} (he:r.e=0) (l:List Int):(if l.length=32/\r.a<c.ts.length/\QbE c { r with e:=0 } (λt=>decide (t.k=2))=true then Qg c 12 r else r)=if decide (l.length=32)=true/\Qbb c r=true then Qg c 12 r else r:=by
 have hr:({ r with e:=0 }:Rd)=r:=by cases r; simp only at he; subst he; rfl
 rw[hr];have:(l.length=32/\r.a<c.ts.length/\QbE c r (λt=>decide (t.k=2))=true)↔(decide (l.length=32)=true/\Qbb c r=true):=by
  simp only[Zs];constructor
  . rintro⟨h1,_,h3⟩; exact⟨h1,h3⟩
  . rintro⟨h1,h3⟩; exact⟨h1,(QcV h3).2.1,h3⟩
 simp only[this]
theorem Qos {c:Cx} {n:Nat} {l:List Int} {r:Rd} (h:r.e≠0):QcP c n l r=(l,r):=by
 cases n with
 |zero=>rfl
 |succ n=>rw[QcP,Zq (by rw[QbM h]; decide)]
theorem QCn {c:Cx} {d:Nat} {r:Rd} (full:Bool) (h:Gd c d r):Gd c d (QcA c full r).2/\r.a<=(QcA c full r).2.a:=by
 unfold QcA;obtain⟨h1,h2,_⟩:=QgB (P:=full=true/\Qbb c r=true) h;obtain⟨h3,h4⟩:=Qcp _ h1;exact⟨h3,by omega⟩
theorem QpG {c:Cx} {d:Nat} {r:Rd} (full:Bool) (h:Gd c d r):Gd c d (Qbk c full r).2/\r.a<=(Qbk c full r).2.a:=by
 unfold Qbk;obtain⟨h1,h2,_⟩:=QgB (P:=full=true/\QV c r=true) h;obtain⟨h3,h4⟩:=QcC _ h1;exact⟨h3,by omega⟩
theorem QiI (c:Cx) (r:Rd):QcA c false r=nmR c r:=by unfold QcA; rw[Zq (by simp)]
theorem QiT (c:Cx) (r:Rd):Qbk c false r=QX c r:=by unfold Qbk; rw[Zq (by simp)]
theorem Qas (c:Cx) (s:ZG) (r:Rd):QcF c [s] r=t2 c s r:=rfl
theorem Qix (c:Cx) (s s':ZG) (r:Rd):QcF c [s,s'] r=t2 c s' (t2 c s r):=rfl
theorem Qzq (l:List Int) (n:Int):QE (l++[n])=QE l++[V n]:=by simp[QE]
section
variable {H:ZI} {c:Cx} {r:Rd} {j k:Nat} {lb nm:ZG} {lo hi p:Int} {wt:List Ex}
def dlC (lb nm:ZG) (lo hi:Int) (wt:List Ex) (all:Bool) (xS:SV) (p:Int):ZJ:=[V 1,st (B lb),st (B nm),V lo,V hi,exN wt,bl all,xS,nl,nl,nl,V p]
theorem Qvm (hn:Q2 c) (h20:c.ts.length<=20000) (Z:closed H) (hJ:J2 H j k) (he:r.e=0) (ha:r.a<=c.ts.length) {all:Bool} {seen:List Int} {xS:SV} {L:ZI} (hS:Rw H.length L xS (inN seen)) {U:Env} (h0:U.get 0=rp j) {res:Qc×Rd}
 (ag:(⟨1,lb,nm,lo,hi,wt,all,seen,[],[],[],p⟩,t2 c [59] r)=res) :
 X Tryz.prog Tryz.f147.ntmps Qf (IC.tl 8 Qau) U (w2 H j k (ae c r) ⟨dlC lb nm lo hi wt all xS p,78,0,true⟩++L) (FinP H.length QfT (PdS c H j k res)):=by
 have hct:c.ts.length<4611686018427387904:=by omega
 subst ag;have hw:=QfA (p:=⟨dlC lb nm lo hi wt all xS p,78,0,true⟩) (L:=L++[⟨[st (B [59])],9,0,true⟩]) (q:=L.length) (n:=1) (T:=9) (ver:=0) (l:=[[59]]) hn hct hJ (by simp[wds]) rfl (by simp) (by intro s hs; simp at hs; subst hs; rfl) he ha;simp -implicitDefEqProofs[IC.tl,Qau,QfT,h0,rp];refine Qad (by simpa[rp]using hw) (λah => ?_) (λah H' hk => ?_)
 . rw[Qa7 hJ];simp -implicitDefEqProofs;rw[Qas]at ah ⊢;refine⟨_,_,PdS.ret (q:=(⟨1,lb,nm,lo,hi,wt,all,seen,[],[],[],p⟩,t2 c [59] r)) ah rfl,?_⟩;refine QoL rfl Z hJ ?_;have e1:=hS.fz [⟨[st (B [59])],9,0,true⟩] 1;have e2:=(Rw.und (Qzp wt) (QtN H.length wt) (L:=L)).fz [⟨[st (B [59])],9,0,true⟩] 1;simp only[dlC,Vl,VM,Qc.cN,e1,e2];simp[exN,acN]
 . simp -implicitDefEqProofs;exact⟨_,_,PdS.pan (q:=(⟨1,lb,nm,lo,hi,wt,all,seen,[],[],[],p⟩,t2 c [59] r)) ah (hk.w2 hJ),Qi⟩
theorem QxA (hn:Q2 c) (h20:c.ts.length<=20000) (hJ:J2 H j k) {d:Nat} {N:Nat} {K:ZH} {res:List Int×Rd} {L:ZI}
 (ai:∀ l m M U,res.2.e=0->res.1=l->l.length=m+1->Gd c d res.2->U.get 0=rp j->K (.exit 0) U (w2 H j k (ae c res.2) ⟨dlC lb nm lo hi wt false (.own (H.length+L.length) 0 (m+1) 1 m) p,78,0,true⟩++(L++⟨QE l,3,m,true⟩::M)))
 (hpan:res.2.e≠0->∀ U H',Qu H [j,k] H'->K (.panic (QZ res.2.e res.2.p)) U H') :
 ∀ (n:Nat) (l:List Int) (m:Nat) (r:Rd) (M:ZI) (U:Env),c.ts.length<=r.a+n->l.length=m+1->l.length<=r.a+1->QcP c n l r=res->Gd c d r->r.e=0->U.get 0=rp j->U.get 1=rp k ->
  LI Tryz.prog N Qf QkT U (w2 H j k (ae c r) ⟨dlC lb nm lo hi wt false (.own (H.length+L.length) 0 (m+1) 1 m) p,78,0,true⟩++(L++⟨QE l,3,m,true⟩::M)) K:=by
 have hct:c.ts.length<4611686018427387904:=by omega
 intro n
 induction n with
 |zero =>
  intro l m r M U hna hlm hla hr hg he h0 h1;refine Qp hm QkT.eq_1 ?_;have hp:Qd c [44] r=false:=by rw[<-Vm]; intro h; have:=QaP h; omega
  have h90:=λp L=>QdH hn (QbI (o:=ae c r) (p:=p) hJ L) (by have:=hg.a; omega) he (s:=[44]) rfl;simp -implicitDefEqProofs[h0,h1,rp];refine Qb (by simpa[rp]using h90 _ _) ?_;simp only[Qab,hp];simp -implicitDefEqProofs[h0,h1];rw[Qa7 hJ];simp only[QcP]at hr;subst hr;exact ai l m M _ he rfl hlm hg (by simp)
 |succ n ih =>
  intro l m r M U hna hlm hla hr hg he h0 h1;refine Qp hm QkT.eq_1 ?_;have h90:=λp L=>QdH hn (QbI (o:=ae c r) (p:=p) hJ L) (by have:=hg.a; omega) he (s:=[44]) rfl;simp -implicitDefEqProofs[h0,h1,rp];refine Qb (by simpa[rp]using h90 _ _) ?_;rw[QcP]at hr;by_cases hp:Qd c [44] r=true
  . rw[Zr hp]at hr;have hlt:=QaP hp;have hla2:=hg.a;have hg1:=hg.next hlt
    have ay:(Qa r).e=0:=he;have ha1:(Qa r).a=r.a+1:=rfl;rw[Qc4 hp]at hr;simp only[]at hr;rw[Qzr ay]at hr;have hr2:QcP c n (l++[(QcA c (decide (l.length=32)) (Qa r)).1]) (QcA c (decide (l.length=32)) (Qa r)).2=res:=hr;have hd:(decide ((m:Int)+1=32))=decide (l.length=32):=by rw[ZE]; omega
    have h89:=λp L=>QiB (QbI (o:=ae c (Qa r)) (p:=p) hJ L) (by omega) ay (decide (l.length=32));obtain⟨k1,k2⟩:=QCn (decide (l.length=32)) hg1;simp only[Qab,hp,Zv];rw[Qa7 hJ];have e2:=λo cs L f=>Qf5 (o:=o) (p:=⟨cs,78,0,true⟩) hJ L f;have e3:=λo cs L=>QfE (o:=o) hJ cs 78 L;simp -implicitDefEqProofs[h0,h1,rp,e3,dlC,hd];generalize QcA c (decide (l.length=32)) (Qa r)=q at hr2 h89 k1 k2;refine Qad (by simpa[rp,dlC]using h89 _ _) (λah => ?_) (λah H' hk => ?_)
    . rw[Qa7 hJ];simp -implicitDefEqProofs[e2,e3];have hil:(QE l).length=m+1:=by simp[QE,hlm]
      simp -implicitDefEqProofs;refine⟨by omega,by omega,hlm,?_⟩;refine LI.cong ?_ (ih (l++[q.1]) (m+1) q.2 (M++[⟨[V q.1],3,0,true⟩]) _ (by omega) (by simp[hlm]) (by simp; omega) hr2 k1 ah ?_ ?_)
      . simp[Qzq,dlC]
      all_goals simp[rp]
    . simp -implicitDefEqProofs;rw[Qos ah]at hr2;subst hr2;exact hpan ah _ _ (hk.w2 hJ)
  . rw[Zq hp]at hr;rw[Vm]at hp;simp only[Qab,hp];simp -implicitDefEqProofs[h0,h1];rw[Qa7 hJ];subst hr;exact ai l m M _ he rfl hlm hg (by simp)
end
section
variable {H:ZI} {c:Cx} {r:Rd} {j k:Nat} {lb nm:ZG} {lo hi p:Int} {wt:List Ex}
theorem Qms {c:Cx} {s:ZG} {r:Rd}:(Qj c s r).2=t2 c s r:=rfl
theorem QCP (hp:Qd c [115,101,101,110] r=false):Qa3 c r=((false,[]),r):=by unfold Qa3; rw[Zq (by simp[hp])]
theorem Qxy (hp:Qd c [115,101,101,110] r=true) (hb:(t2 c [98,121] (Qa r)).e≠0):(Qa3 c r).2=t2 c [98,121] (Qa r):=by
 unfold Qa3;rw[Zr hp,Qc4 hp];dsimp only;generalize t2 c [98,121] (Qa r)=r1 at hb ⊢;rw[Zq (by rw[QbM hb]; decide),QeL r1 hb,Qos hb]
theorem Qxi (hp:Qd c [115,101,101,110] r=true) (h2:Qd c [97,108,108] (t2 c [98,121] (Qa r))=true):Qa3 c r=((true,[]),Qa (t2 c [98,121] (Qa r))):=by
 unfold Qa3;rw[Zr hp,Qc4 hp];dsimp only;rw[Zr h2,Qc4 h2]
theorem Qxg (hp:Qd c [115,101,101,110] r=true) (h2:Qd c [97,108,108] (t2 c [98,121] (Qa r))=false) {r1:Rd} (h1:t2 c [98,121] (Qa r)=r1):Qa3 c r=((false,(QcP c c.ts.length [(nmR c r1).1] (nmR c r1).2).1),(QcP c c.ts.length [(nmR c r1).1] (nmR c r1).2).2):=by
 subst h1;unfold Qa3;rw[Zr hp,Qc4 hp];dsimp only;rw[Zq (by rw[h2]; decide)]
theorem QBM (hn:Q2 c) (h20:c.ts.length<=20000) (Z:closed H) (hJ:J2 H j k) {d:Nat} (hg:Gd c d r) (he:r.e=0) {L:ZI} {U:Env} (h0:U.get 0=rp j) (h1:U.get 1=rp k) {res:Qc×Rd}
 (ag:(⟨1,lb,nm,lo,hi,wt,(Qa3 c r).1.1,(Qa3 c r).1.2,[],[],[],p⟩,t2 c [59] (Qa3 c r).2)=res) :
 X Tryz.prog Tryz.f147.ntmps Qf (IC.tl 7 Qau) U (w2 H j k (ae c r) ⟨dlC lb nm lo hi wt false nl p,78,0,true⟩++L) (FinP H.length QfT (PdS c H j k res)):=by
 have hct:c.ts.length<4611686018427387904:=by omega
 have ha:=hg.a;have tail:∀ (r:Rd) (all:Bool) (seen:List Int) (xS:SV) (L:ZI) (U:Env),r.e=0->r.a<=c.ts.length->Rw H.length L xS (inN seen)->U.get 0=rp j->(⟨1,lb,nm,lo,hi,wt,all,seen,[],[],[],p⟩,t2 c [59] r)=res->_:=λr all seen xS L U he ha hS h0 hr=>Qvm (lb:=lb) (nm:=nm) (lo:=lo) (hi:=hi) (p:=p) (wt:=wt) hn h20 Z hJ he ha hS h0 hr;have bad:∀ rf:Rd,rf.e≠0->(Qa3 c r).2=rf->∀ H',Qu H [j,k] H'->PdS c H j k res (.pan (QZ rf.e rf.p)) H':=by
  intro rf hf hs H' hk;have:res.2=rf:=by rw[<-ag]; simp only[hs]; exact Q5 _ hf
  rw[<-this]at hf ⊢;exact PdS.pan hf hk
 have h90:=λp L=>QdH hn (QbI (o:=ae c r) (p:=p) hJ L) (by omega) he (s:=[115,101,101,110]) rfl;have e2:=λo cs L f=>Qf5 (o:=o) (p:=⟨cs,78,0,true⟩) hJ L f;have e3:=λo cs L=>QfE (o:=o) hJ cs 78 L;rw[show IC.tl 7 Qau=.seq (IC.nth 7 Qau) (IC.tl 8 Qau)from rfl];generalize IC.tl 8 Qau=t8 at tail ⊢;simp[IC.nth,Qau,QfT,h0,h1,rp];refine Qb (by simpa[rp]using h90 _ _) ?_;rw[Qa7 hJ];by_cases hp:Qd c [115,101,101,110] r=true
 . have hg1:=hg.next (QaP hp)
   have ay:(Qa r).e=0:=he;simp only[Qab,hp,Zv];have hw:=QfA (p:=⟨dlC lb nm lo hi wt false nl p,78,0,true⟩) (L:=L++[⟨[st (B [98,121])],9,0,true⟩]) (q:=L.length) (n:=1) (T:=9) (ver:=0) (l:=[[98,121]]) hn hct hJ (by simp[wds]) rfl (by simp) (by intro s hs; simp at hs; subst hs; rfl) ay hg1.a;have hgb:=(QM (c:=c) (d:=d) [98,121] hg1).1;simp;refine Qad (by simpa[rp]using hw) (λah => ?_) (λah H' hk => ?_)
   . rw[Qa7 hJ];simp only[Qas]at ah ⊢;have hab:=Qxi (c:=c) (r:=r) hp;have hli:=Qxg (c:=c) (r:=r) hp;generalize t2 c [98,121] (Qa r)=r1 at hgb ah hab hli ⊢;have ha1:=hgb.a;have h90:=λp L=>QdH hn (QbI (o:=ae c r1) (p:=p) hJ L) (by omega) ah (s:=[97,108,108]) rfl;simp;refine Qb (by simpa[rp]using h90 _ _) ?_;rw[Qa7 hJ];by_cases hp2:Qd c [97,108,108] r1=true
     . have hg2:=hgb.next (QaP hp2)
       simp only[Qab,hp2,Zv];simp[e2,e3,dlC];have hx:=tail (Qa r1) true [] nl (L++[⟨[st (B [98,121])],9,0,true⟩]) ((54,rp k)::U) ah hg2.a (Rw.und rfl rfl) (by simp[h0]) (by rw[<-ag,hab hp2]);refine Xc ?_ (tail (Qa r1) true [] nl (L++[⟨[st (B [98,121])],9,0,true⟩]) _ ah hg2.a (Rw.und rfl rfl) ?_ (by rw[<-ag,hab hp2]))
       . simp[dlC]
       . simp[h0,rp]
     . rw[Vm]at hp2;have hli:=hli hp2 rfl;have h89:=λp L=>QiB (QbI (o:=ae c r1) (p:=p) hJ L) (by omega) ah false;have hkn:=Qcp (c:=c) (d:=d) r1 hgb;simp only[QiI]at h89;simp only[Qab,hp2];simp[e2,e3,dlC];generalize nmR c r1=q at hkn h89 hli;obtain⟨k1,k2⟩:=hkn;refine Qad (by simpa[rp]using h89 _ _) (λhe3 => ?_) (λhe3 H' hk => ?_)
       . rw[Qa7 hJ];simp[e2,e3,dlC];generalize hs:QcP c c.ts.length [q.1] q.2=s at hli;refine LI.cong (H':=w2 H j k (ae c q.2) ⟨dlC lb nm lo hi wt false (.own (H.length+(L++[⟨[st (B [98,121])],9,0,true⟩]:ZI).length) 0 (0+1) 1 0) p,78,0,true⟩++((L++[⟨[st (B [98,121])],9,0,true⟩])++⟨QE [q.1],3,0,true⟩::[])) (by simp[dlC,QE]) ?_;refine QxA hn h20 hJ (L:=L++[⟨[st (B [98,121])],9,0,true⟩]) (res:=s) (λl m M U hs0 hsl hlm hgs h0 => ?_) (λhs0 U H' hk => ?_) c.ts.length [q.1] 0 q.2 [] _ (by omega) rfl (by simp) hs k1 he3 ?_ ?_
         . simp;have hR:Rw H.length ((L++[⟨[st (B [98,121])],9,0,true⟩])++⟨QE l,3,m,true⟩::M) (.own (H.length+(L++[⟨[st (B [98,121])],9,0,true⟩]:ZI).length) 0 (m+1) 1 m) (inN l):=by
            have:=Rw.own (n:=H.length) (q:=(L++[⟨[st (B [98,121])],9,0,true⟩]:ZI).length) (m:=m+1) (sz:=1) (ver:=m) (T:=3) (L:=(L++[⟨[st (B [98,121])],9,0,true⟩])++⟨QE l,3,m,true⟩::M) (cells:=QE l) (by simp) (by simp[QE,hlm]) (QA7 _ _);have hne:l≠[]:=by rintro rfl; simp at hlm
            rw[inN,Zq hne,hlm]; exact this
           have hx:=tail s.2 false l _ _ U hs0 hgs.a hR h0 (by rw[<-ag,hli,hsl]);exact Xc (by simp[dlC]) hx
         . simp;exact⟨_,_,bad s.2 hs0 (by rw[hli]) _ hk,Qi⟩
         all_goals simp[h0,h1,rp]
       . simp;rw[Qos he3]at hli;exact⟨_,_,bad q.2 he3 (by rw[hli]) _ (hk.w2 hJ),Qi⟩
   . simp;rw[Qas]at ah;exact⟨_,_,bad _ ah (Qxy hp ah) _ (hk.w2 hJ),Qi⟩
 . rw[Vm]at hp;simp only[Qab,hp];simp;exact tail r false [] nl L _ he ha (Rw.und rfl rfl) (by simp[h0,rp]) (by rw[<-ag,QCP hp])
end
def sC (lb:ZG) (p:Int):ZJ:=[V 0,st (B lb),st (B []),V 0,V 0,nl,bl false,nl,nl,nl,nl,V p]
section
variable {H:ZI} {c:Cx} {r:Rd} {j k:Nat} {lb:ZG} {p:Int} {F:Rd->Ex×Rd}
def QfG (c:Cx) (F:Rd->Ex×Rd) (lb:ZG) (p:Int) (r:Rd):Qc×Rd :=
 let nm:=QX c r
 let lo:=nmR c (t2 c [105,110] nm.2)
 let hi:=nmR c (t2 c [46,46] lo.2)
 let w:=Qbm c F [119,101,105,103,104,116] hi.2
 let s:=Qa3 c w.2
 (⟨1,lb,nm.1,lo.1,hi.1,w.1,s.1.1,s.1.2,[],[],[],p⟩,t2 c [59] s.2)
theorem Qom (c:Cx) (s:ZG) (r:Rd):(Qj c s r).1=Qm c r:=rfl
theorem Qym (r:Rd):QeX c F { QdZ with lb:=lb } r=QfG c F lb (Qm c r) (t2 c [100,101,97,108] r):=by
 unfold QeX QfG;simp only[QdZ,Qom,Qms]
theorem Que {o p:AO} (h:J2 H j k):(w2 H j k o p)[j]? = some o:=by simpa using QbI (o:=o) (p:=p) h []
theorem Qu9 {o p:AO} (h:J2 H j k) (o':AO):(w2 H j k o p).set j o'=w2 H j k o' p:=by simpa using Qa7 (o:=o) (p:=p) h [] o'
theorem QmZ {o:AO} (h:J2 H j k) (cs:ZJ) (T:ZM):Qo (w2 H j k o ⟨cs,T,0,true⟩) k 0=cs:=by simpa using QfE (o:=o) h cs T []
theorem Qnw {o p:AO} (h:J2 H j k) (f:AO->AO):Ab.setObj (w2 H j k o p) k f=w2 H j k o (f p):=by simpa using Qf5 (o:=o) (p:=p) h [] f
set_option maxHeartbeats 2000000 in
theorem QzW (hn:Q2 c) (h20:c.ts.length<=20000) (Z:closed H) (hJ:J2 H j k) {d:Nat} (hF:PdC c 32 [] F d) (hkF:Kp c d F) (hst:QJ F) (hg:Gd c d r) (he:r.e=0) {L:ZI} {U:Env} (h0:U.get 0=rp j) (h1:U.get 1=rp k) {nm:ZG} {res:Qc×Rd}
 (ag:(λlo:Int×Rd=>(λhi:Int×Rd=>(λw:List Ex×Rd=>(λs:(Bool×List Int)×Rd=>((⟨1,lb,nm,lo.1,hi.1,w.1,s.1.1,s.1.2,[],[],[],p⟩,t2 c [59] s.2):Qc×Rd)) (Qa3 c w.2)) (Qbm c F [119,101,105,103,104,116] hi.2)) (nmR c (t2 c [46,46] lo.2))) (nmR c (t2 c [105,110] r))=res) :
 X Tryz.prog Tryz.f147.ntmps Qf (IC.tl 2 Qau) U (w2 H j k (ae c r) ⟨dlC lb nm 0 0 [] false nl p,78,0,true⟩++L) (FinP H.length QfT (PdS c H j k res)):=by
 have hct:c.ts.length<4611686018427387904:=by omega
 have ha:=hg.a;have tail:∀ (lo hi:Int) (wt:List Ex) (r:Rd) (L:ZI) (U:Env),Gd c d r->r.e=0->U.get 0=rp j->U.get 1=rp k->(⟨1,lb,nm,lo,hi,wt,(Qa3 c r).1.1,(Qa3 c r).1.2,[],[],[],p⟩,t2 c [59] (Qa3 c r).2)=res->_:=λlo hi wt r L U hg he h0 h1 hr=>QBM (lb:=lb) (nm:=nm) (lo:=lo) (hi:=hi) (p:=p) (wt:=wt) (L:=L) hn h20 Z hJ hg he h0 h1 hr;have bad:∀ rf:Rd,rf.e≠0->res.2=rf->∀ H',Qu H [j,k] H'->PdS c H j k res (.pan (QZ rf.e rf.p)) H':=by
  intro rf hf hs H' hk;rw[<-hs]at hf ⊢;exact PdS.pan hf hk
 have e2:=λo cs L f=>Qf5 (o:=o) (p:=⟨cs,78,0,true⟩) hJ L f;have e3:=λo cs L=>QfE (o:=o) hJ cs 78 L;rw[show IC.tl 2 Qau=.seq (IC.nth 2 Qau) (IC.tl 3 Qau)from rfl,show IC.tl 3 Qau=.seq (IC.nth 3 Qau) (IC.tl 4 Qau)from rfl,show IC.tl 4 Qau=.seq (IC.nth 4 Qau) (IC.tl 5 Qau)from rfl,show IC.tl 5 Qau=.seq (IC.nth 5 Qau) (IC.tl 6 Qau)from rfl,show IC.tl 6 Qau=.seq (IC.nth 6 Qau) (IC.tl 7 Qau)from rfl];generalize IC.tl 7 Qau=t7 at tail ⊢;have hw:=QfA (p:=⟨dlC lb nm 0 0 [] false nl p,78,0,true⟩) (L:=L++[⟨[st (B [105,110])],9,0,true⟩]) (q:=L.length) (n:=1) (T:=9) (ver:=0) (l:=[[105,110]]) hn hct hJ (by simp[wds]) rfl (by simp) (by intro s hs; simp at hs; subst hs; rfl) he ha;have hg1:=(QM (c:=c) (d:=d) [105,110] hg).1;simp -implicitDefEqProofs[IC.nth,Qau,QfT,h0,rp];refine Qad (by simpa[rp]using hw) (λay => ?_) (λay H' hk => ?_)
 . rw[Qa7 hJ];simp only[Qas]at ay ⊢;generalize t2 c [105,110] r=r1 at hg1 ay ag ⊢;have ha1:=hg1.a;have h89:=λp L=>QiB (QbI (o:=ae c r1) (p:=p) hJ L) (by omega) ay false;simp only[QiI]at h89;have hg2:=(Qcp (c:=c) (d:=d) r1 hg1).1;simp -implicitDefEqProofs[h0,h1,rp];generalize nmR c r1=q at hg2 h89 ag;refine Qad (by simpa[rp]using h89 _ _) (λah => ?_) (λah H' hk => ?_)
   . rw[Qa7 hJ];simp -implicitDefEqProofs[h0,h1,rp,e2,e3,dlC];have hw:=QfA (p:=⟨dlC lb nm q.1 0 [] false nl p,78,0,true⟩) (L:=(L++[⟨[st (B [105,110])],9,0,true⟩])++[⟨[st (B [46,46])],9,0,true⟩]) (q:=(L++[(⟨[st (B [105,110])],9,0,true⟩:AO)]).length) (n:=1) (T:=9) (ver:=0) (l:=[[46,46]]) hn hct hJ (by simp[wds]) rfl (by simp) (by intro s hs; simp at hs; subst hs; rfl) ah hg2.a;have hg3:=(QM (c:=c) (d:=d) [46,46] hg2).1;refine Qad (by simpa[rp,dlC]using hw) (λhe3 => ?_) (λhe3 H' hk => ?_)
     . rw[Qa7 hJ];simp only[Qas]at he3 ⊢;try simp only at ag
       generalize t2 c [46,46] q.2=r3 at hg3 he3 ag ⊢;have ha3:=hg3.a;have h89:=λp L=>QiB (QbI (o:=ae c r3) (p:=p) hJ L) (by omega) he3 false;simp only[QiI]at h89;have hg4:=(Qcp (c:=c) (d:=d) r3 hg3).1;simp -implicitDefEqProofs[h0,h1,rp];generalize nmR c r3=q4 at hg4 h89 ag;refine Qad (by simpa[rp]using h89 _ _) (λhe4 => ?_) (λhe4 H' hk => ?_)
       . rw[Qa7 hJ];simp -implicitDefEqProofs[h0,h1,rp,e2,e3];have h181:=λp L=>Qqm hn hF (s:=[119,101,105,103,104,116]) rfl (QbI (o:=ae c q4.2) (p:=p) hJ L) hct hg4 he4;have hg5:=(Qho hkF [119,101,105,103,104,116] _ hg4).1;try simp only at ag
         generalize Qbm c F [119,101,105,103,104,116] q4.2=q5 at hg5 h181 ag;refine Qad (by simpa[rp]using h181 _ _) (λhe5 => ?_) (λhe5 H' hk => ?_)
         . rw[Qa7 hJ];simp -implicitDefEqProofs[h0,h1,rp,e2,e3];refine Xc ?_ (tail q.1 q4.1 q5.1 q5.2 (L++[⟨[st (B [105,110])],9,0,true⟩,⟨[st (B [46,46])],9,0,true⟩]) _ hg5 he5 ?_ ?_ ag)
           . simp[dlC]
           all_goals simp[h0,h1,rp]
         . simp -implicitDefEqProofs;refine⟨_,_,bad _ he5 ?_ _ (hk.w2 hJ),Qi⟩;rw[<-ag,Qhh _ he5,Q5 _ he5]
       . simp -implicitDefEqProofs;refine⟨_,_,bad _ he4 ?_ _ (hk.w2 hJ),Qi⟩;rw[<-ag];simp only[QeR _ _ he4,Qhh _ he4,Q5 _ he4]
     . simp -implicitDefEqProofs;rw[Qas]at he3;refine⟨_,_,bad _ he3 ?_ _ (hk.w2 hJ),Qi⟩;rw[<-ag];simp only[QeL _ he3,QeR _ _ he3,Qhh _ he3,Q5 _ he3]
   . simp -implicitDefEqProofs;refine⟨_,_,bad _ ah ?_ _ (hk.w2 hJ),Qi⟩;rw[<-ag];simp only[QeL _ ah,QeR _ _ ah,Qhh _ ah,Q5 _ ah]
 . simp -implicitDefEqProofs;rw[Qas]at ay;refine⟨_,_,bad _ ay ?_ _ (hk.w2 hJ),Qi⟩;rw[<-ag];simp only[QeL _ ay,QeR _ _ ay,Qhh _ ay,Q5 _ ay]
set_option maxHeartbeats 2000000 in
theorem QBR (hn:Q2 c) (h20:c.ts.length<=20000) (hJ:J2 H j k) {d:Nat} (hF:PdC c 32 [] F d) (hkF:Kp c d F) (hst:QJ F) (ho:H[j]? = some (ae c r)) (hk0:H[k]? = some ⟨sC lb p,78,0,true⟩) (hg:Gd c d r) (he:r.e=0) :
 OkP Tryz.prog 147 [rp j,rp k] H (PdS c H j k (QfG c F lb p r)):=by
 have hct:c.ts.length<4611686018427387904:=by omega
 have ha:=hg.a;have e2:=λo cs f=>Qnw (o:=o) (p:=⟨cs,78,0,true⟩) hJ f;have e3:=λo cs=>QmZ (o:=o) hJ cs 78;refine QaY hm Tryz.func147 c147 (by simp[rp]) λZ => ?_;refine Xc (H':=w2 H j k (ae c r) ⟨sC lb p,78,0,true⟩) (QmW ho hk0) ?_;have hg1:=(QcC (c:=c) (d:=d) r hg).1;have h88:=λp=>QmU (Que (o:=ae c r) (p:=p) hJ) (by omega) he false;simp only[QiT]at h88;have tail:∀ (nm:ZG) (r:Rd) (L:ZI) (U:Env) (res:Qc×Rd),Gd c d r->r.e=0->U.get 0=rp j->U.get 1=rp k->_->_:=λnm r L U res hg he h0 h1 hr=>QzW (lb:=lb) (nm:=nm) (p:=p) (L:=L) (res:=res) hn h20 Z hJ hF hkF hst hg he h0 h1 hr;rw[show Qau=.seq (IC.nth 0 Qau) (.seq (IC.nth 1 Qau) (IC.tl 2 Qau))from rfl];generalize IC.tl 2 Qau=t2' at tail ⊢;generalize ag:QfG c F lb p r=res;unfold QfG at ag;simp -implicitDefEqProofs[IC.nth,Qau,QfT,rp,e2,e3,sC];generalize QX c r=q at hg1 h88 ag;refine Qad (by simpa[rp]using h88 _) (λay => ?_) (λay H' hk => ?_)
 . rw[Qu9 hJ];simp -implicitDefEqProofs[e2,e3];refine Xc ?_ (tail q.1 q.2 [] _ res hg1 ay ?_ ?_ ag)
   . simp[dlC,exN]
   all_goals simp[rp]
 . simp -implicitDefEqProofs;have hb:res.2=q.2:=by
    rw[<-ag];simp only[QeL _ ay,QeR _ _ ay,Qhh _ ay,Q5 _ ay]
   have hk':Qu H [j,k] H':=(show Qu (w2 H j k (ae c r) _++[]) [j] H' by simpa using hk).w2 hJ;rw[<-hb]at ay ⊢;exact⟨_,_,PdS.pan ay hk',Qi⟩
end
theorem QpF {P:ZN} (hm:P.follows .mixedOrders=true) {f:ZP} {fn:Func} {i:IC} {rs:List RS} (hf:P.funcs[f]? = some fn) (hc:Qdn P Qf fn i rs=true)
 {args:ZJ} {H:ZI} {Pt:Out->ZI->Prop} (hn:args.length=fn.params.size+fn.nfree)
 (hx:closed H->WI P fn.ntmps Qf i (Qcq args) H (FinP H.length rs Pt)):OkP P f args H Pt:=by
 unfold Qdn at hc;rw[Va,Va,Va]at hc;obtain⟨⟨⟨h1,h2⟩,h3⟩,h4⟩:=hc;split at h1
 . rename_i c hb;exact Qko hf hb (by simpa using h2) (by rw[hn]; simpa using h4) h3 λZ=>hx Z c h1
 . cases h1
section
variable {H:ZI} {c:Cx} {r:Rd} {j:Nat}
theorem Qb4 (hj:j<H.length) (o:AO) (L:ZI):(H.set j o++L)[j]? = some o:=by rw[Vc (by simpa using hj)]; simp[hj]
theorem QaM (hj:j<H.length) (o o':AO) (L:ZI):(H.set j o++L).set j o'=H.set j o'++L:=by rw[Vn _ _ (by simpa using hj),VF]
theorem Qnx (hj:j<H.length) (r:Rd) (L:ZI):Ok Tryz.prog 91 [rp j] (H.set j (ae c r)++L) (.ret (V (Qm c r))) (H.set j (ae c r)++L):=QgH (Qb4 hj _ _)
theorem Qi8 (hn:Q2 c) (hj:j<H.length) (hl:r.a<4611686018427387904) (he:r.e=0) (L:ZI) {s:ZG} (hs:Qdc s=true):Ok Tryz.prog 90 [rp j,st (B s)] (H.set j (ae c r)++L) (.ret (bl (Qd c s r))) (H.set j (ae c (Qab c s r))++L):=by
 have:=QdH hn (Qb4 hj (ae c r) L) hl he hs
 rwa [QaM hj]at this
theorem QiM (hj:j<H.length) (hl:r.a<4611686018427387904) (he:r.e=0) (L:ZI) (full:Bool):OkP Tryz.prog 88 [rp j,bl full] (H.set j (ae c r)++L) (PdV c (H.set j (ae c r)++L) j (λs=>st (B s)) (Qbk c full r)):=QmU (Qb4 hj (ae c r) L) hl he full
theorem Qpx (hj:j<H.length) (hl:r.a<4611686018427387904) (he:r.e=0) (L:ZI) (full:Bool):OkP Tryz.prog 89 [rp j,bl full] (H.set j (ae c r)++L) (PdV c (H.set j (ae c r)++L) j V (QcA c full r)):=QiB (Qb4 hj (ae c r) L) hl he full
theorem Qef (hn:Q2 c) (hct:c.ts.length<4611686018427387904) (hj:j<H.length) {L:ZI} {q n T ver:Nat} {l:ZF} (hL:L[q]? = some ⟨wds l,T,ver,true⟩) (hn':n=l.length) (hl:l.length<4611686018427387904) (hw:∀ s∈l,Qdc s=true) (he:r.e=0) (ha:r.a<=c.ts.length) :
 OkP Tryz.prog 87 [rp j,.own (H.length+q) 0 n 1 ver] (H.set j (ae c r)++L) (PdV c (H.set j (ae c r)++L) j (λ_:Unit=>.tup []) ((),QcF c l r)):=by
 refine Qle hn (Qb4 hj _ L) (λo => ?_) hl hct hw he ha;have:=Qlg (G:=H.set j (ae c r)) (L:=L) (j:=j) (k:=q) (by simpa using hj) hL hn' o;simpa using this
def QhI (c:Cx) (r:Rd):ZG×Rd:=((QX c r).1,t2 c [59] (QX c r).2)
theorem QwQ (hn:Q2 c) (hct:c.ts.length<4611686018427387904) {q:Nat} (hq:H[q]? = some (bxO j)) (ho:H[j]? = some (ae c r)) (he:r.e=0) (ha:r.a<=c.ts.length):OkP Tryz.prog 201 [rp q] H (PdV c H j (λs=>st (B s)) (QhI c r)):=by
 have hj:=Qk ho;have hqj:=Qk hq;have hne:j≠q:=by
  rintro rfl;rw[hq]at ho;simp only[bxO,ae,Option.some.injEq,AO.mk.injEq]at ho;have:=Zt List.length ho.1;simp[pdC]at this
 have e1:Qo H q 0=[rp j]:=Q7 (o:=bxO j) hq rfl;have e1s:∀ o L,Qo (H.set j o++L) q 0=[rp j]:=λo L=>Q7 (o:=bxO j) (by rw[Vc (by simpa using hqj),Vg hne]; exact hq) rfl;have e1n:∀ o,Qo (H.set j o) q 0=[rp j]:=λo=>by simpa using e1s o []
 have h88:=QmU ho (by omega) he false;simp only[QiT]at h88;have hwk:(QX c r).2.a<=c.ts.length:=by
  unfold QX; split
  . rename_i h; exact(QcV h).2.1
  . unfold Qg; split<;>exact ha
 refine QaY hm Tryz.func201 c201 (by simp[rp]) λZ => ?_;unfold QhI;simp -implicitDefEqProofs[i201,r201,rp,e1];generalize QX c r=w at h88 hwk ⊢;refine Qad (by simpa[rp]using h88) (λay => ?_) (λay H' hk => ?_)
 . simp -implicitDefEqProofs[rp,e1n];have hw:=Qef (r:=w.2) (L:=[⟨[st (B [59])],9,0,true⟩]) (q:=0) (n:=1) (T:=9) (ver:=0) (l:=[[59]]) hn hct hj (by simp[wds]) rfl (by simp) (by intro s hs; simp at hs; subst hs; rfl) ay hwk;refine Qad (by simpa[rp]using hw) (λah => ?_) (λah H' hk => ?_)
   . rw[QaM hj];simp -implicitDefEqProofs;simp only[Qas]at ah ⊢;exact⟨_,_,PdV.got ah rfl rfl rfl,Qq 2 (QbQ (c:=c) (a:=(t2 c [59] w.2).a) (v:=(t2 c [59] w.2).v) Z) (by simp) rfl⟩
   . simp -implicitDefEqProofs;rw[Qas]at ah;exact⟨_,_,PdV.pan (q:=(w.1,t2 c [59] w.2)) ah hk.of_set,Qi⟩
 . simp -implicitDefEqProofs;refine⟨_,_,PdV.eqv (q:=w) (.inr ⟨ay,?_,?_⟩) (PdV.pan ay hk),Qi⟩<;>simp only[Q5 _ ay]
theorem QEh {F:Rd->Ex×Rd} (l:List Ql):Qbp c F l r=(⟨(Qbk c (decide (l.length=32)) r).1,(F (t2 c [61] (Qbk c (decide (l.length=32)) r).2)).1,Qm c r⟩,t2 c [59] (F (t2 c [61] (Qbk c (decide (l.length=32)) r).2)).2):=by
 have hh:Qm c (if l.length=32/\QV c r=true then Qg c 12 r else r)=Qm c r:=by
  split
  . unfold Qg; split<;>rfl
  . rfl
 unfold Qbp Qbk;simp only[hh,Zs]
theorem Qff {F:Rd->Ex×Rd} {n:Nat} {l:List Ql} (h:r.e≠0):Qb8 c F n l r=(l,r):=by
 cases n with
 |zero=>rfl
 |succ n=>rw[Qb8,Zq (λh2=>h h2.1)]
def QaQ (n:Nat) (nm:ZG) (wh:List Ex) (hid:Bool) (m:Nat) (go:ZG) (p:Int):AO:=⟨[st (B nm),exN wh,bl hid,.own (n+3) 0 m 7 m,st (B go),V p],89,0,true⟩
set_option maxHeartbeats 2000000 in
theorem QvY (hn:Q2 c) (h20:c.ts.length<=20000) (hj:j<H.length) {d:Nat} {F:Rd->Ex×Rd} (hF:PdC c 32 [] F d) (hkF:Kp c d F) (hst:QJ F) {nm:ZG} {wh:List Ex} {hid:Bool} {p:Int} {N:Nat} {K:ZH} {res:List Ql×Rd}
 (ai:∀ U G,res.2.e=0->Qd c [125] res.2=true->Gd c d res.2->U.get 1=rp H.length->U.get 2=rp (H.length+1)->U.get 3=rp (H.length+2)->K (.exit 0) U (H.set j (ae c (Qa res.2))++(bxO j::aZ::QaQ H.length nm wh hid res.1.length [] p::Qbq res.1::G)))
 (hpan:res.2.e≠0->∀ U H',Qu H [j] H'->K (.panic (QZ res.2.e res.2.p)) U H') :
 ∀ (n:Nat) (l:List Ql) (r:Rd) (G:ZI) (U:Env),c.ts.length<r.a+n->l.length<=r.a->Qb8 c F n l r=res->Gd c d r->r.e=0->U.get 1=rp H.length->U.get 2=rp (H.length+1)->U.get 3=rp (H.length+2) ->
  LI Tryz.prog N Qf Qnc U (H.set j (ae c r)++(bxO j::aZ::QaQ H.length nm wh hid l.length [] p::Qbq l::G)) K:=by
 have hct:c.ts.length<4611686018427387904:=by omega
 intro n
 induction n with
 |zero=>intro l r G U hna hla hr hg; have:=hg.a; omega
 |succ n ih =>
  intro l r G U hna hla hr hg he h1 h2 h3;have ha:=hg.a;refine Qp hm Qnc.eq_1 ?_;have h90:=Qi8 (r:=r) hn hj (by omega) he (s:=[125]);simp -implicitDefEqProofs[h1,h2,h3,rp,bxO];refine Qb (by simpa[rp]using h90 _ rfl) ?_;rw[Qb8]at hr;by_cases hp:Qd c [125] r=true
  . rw[Zq (by simp[hp])]at hr;subst hr;simp only[Qab,hp,Zv];simp -implicitDefEqProofs;exact ai _ G he hp hg (by simp[rp]) (by simp[rp]) (by simp[rp])
  . rw[Vm]at hp;rw[Zr ⟨he,hp⟩]at hr;obtain⟨k1,k2,k3⟩:=Quu hkF l hg;have hseq:=QEh (c:=c) (r:=r) (F:=F) l;have hd:(decide ((l.length:Int)=32))=decide (l.length=32):=by rw[ZE]; omega
    have h88:=λL=>QiM (c:=c) (r:=r) hj (by omega) he L (decide (l.length=32));have hgw:=(QpG (decide (l.length=32)) hg).1;simp only[Qab,hp];simp -implicitDefEqProofs[QaQ];refine Qb (by simpa[rp]using Qnx (c:=c) hj r _) ?_;simp -implicitDefEqProofs[hd];generalize Qbk c (decide (l.length=32)) r=w at h88 hseq hgw;refine⟨rfl,?_⟩;refine Qad (by simpa[rp]using h88 _) (λay => ?_) (λay H' hk => ?_)
    . rw[QaM hj];simp -implicitDefEqProofs;have hg2:=(QM (c:=c) (d:=d) [61] hgw).1;have hw:=Qef (H:=H) (j:=j) (r:=w.2) (L:=bxO j::aZ::QaQ H.length nm wh hid l.length [] p::Qbq l::(G++[⟨[st (B w.1),V 0,V 0,st (B []),nl,V 0,V (Qm c r)],91,0,true⟩,⟨[st (B [61])],9,0,true⟩])) (q:=G.length+1+4) (n:=1) (T:=9) (ver:=0) (l:=[[61]]) hn hct hj (by simp[wds]) rfl (by simp) (by intro s hs; simp at hs; subst hs; rfl) ay hgw.a;refine Qad (by simpa[rp,bxO,QaQ]using hw) (λah => ?_) (λah H' hk => ?_)
      . rw[QaM hj];simp only[Qas]at ah ⊢;generalize t2 c [61] w.2=r2 at hg2 ah hseq ⊢;have hc:=λL=>hF (Qb4 hj (ae c r2) L) hg2 ah;have hg3:=(hkF _ hg2).1;simp -implicitDefEqProofs;refine QQ (by simpa[rp]using hc _) ?_;intro o H' hq;unfold PdP PdV at hq;generalize F r2=x at hq hg3 hseq;by_cases he3:x.2.e=0
        . rw[Zr he3]at hq;obtain⟨rfl,rfl⟩:=hq;rw[QaM hj];simp -implicitDefEqProofs[Ex.v];have hw:=Qef (H:=H) (j:=j) (r:=x.2) (L:=bxO j::aZ::QaQ H.length nm wh hid l.length [] p::Qbq l::(G++[⟨st (B w.1)::(x.1.c++[V (Qm c r)]),91,0,true⟩,⟨[st (B [61])],9,0,true⟩,⟨[st (B [59])],9,0,true⟩])) (q:=G.length+2+4) (n:=1) (T:=9) (ver:=0) (l:=[[59]]) hn hct hj (by simp[wds]) rfl (by simp) (by intro s hs; simp at hs; subst hs; rfl) he3 hg3.a;refine Qad (by simpa[rp,bxO,QaQ]using hw) (λhe4 => ?_) (λhe4 H' hk => ?_)
          . rw[QaM hj];simp only[Qas]at he4 ⊢;simp -implicitDefEqProofs[Qbq,QaF Ql.len];refine⟨by omega,by omega,?_⟩;have hs4:(Qbp c F l r).2.e=0:=by rw[hseq]; exact he4
            have ha4:=k1.a;have k3':=k3 hs4;refine LI.cong ?_ (ih (l++[(Qbp c F l r).1]) (Qbp c F l r).2 (G++[⟨st (B w.1)::(x.1.c++[V (Qm c r)]),91,0,true⟩,⟨[st (B [61])],9,0,true⟩,⟨[st (B [59])],9,0,true⟩,⟨st (B w.1)::(x.1.c++[V (Qm c r)]),91,0,true⟩]) _ (by omega) (by simp; omega) hr k1 hs4 ?_ ?_ ?_)
            . rw[hseq];simp[QaQ,Qbq,Qh3,rws,Ql.c,bxO,rp]
            all_goals simp[rp]
          . simp -implicitDefEqProofs;rw[Qas]at he4;have hs4:(Qbp c F l r).2=t2 c [59] x.2:=by rw[hseq]
            rw[Qff (by rw[hs4]; exact he4),hs4]at hr;subst hr;exact hpan he4 _ _ hk.of_set
        . rw[Zq he3]at hq;obtain⟨rfl,hk⟩:=hq;simp -implicitDefEqProofs;have hs4:(Qbp c F l r).2=x.2:=by rw[hseq]; exact Q5 _ he3
          rw[Qff (by rw[hs4]; exact he3),hs4]at hr;subst hr;exact hpan he3 _ _ hk.of_set
      . simp -implicitDefEqProofs;rw[Qas]at ah;have hs4:(Qbp c F l r).2=t2 c [61] w.2:=by rw[hseq]; simp only[hst _ ah,Q5 _ ah]
        rw[Qff (by rw[hs4]; exact ah),hs4]at hr;subst hr;exact hpan ah _ _ hk.of_set
    . simp -implicitDefEqProofs;have hs4:(Qbp c F l r).2=w.2:=by rw[hseq]; simp only[Q5 _ ay,hst _ ay]
      rw[Qff (by rw[hs4]; exact ay),hs4]at hr;subst hr;exact hpan ay _ _ hk.of_set
end
section
variable {H:ZI} {c:Cx} {r:Rd} {j:Nat} {nm:ZG} {wh:List Ex} {hid:Bool} {sets:List Ql} {p:Int}
theorem Qqj {x y:AO} {o:AO} {go:ZG} {G:ZI} (Z:closed (H.set j o)) :
 Cv H.length (.agg [st (B nm),exN wh,bl hid,.own (H.length+3) 0 sets.length 7 sets.length,st (B go),V p]) (H.set j o++(x::y::QaQ H.length nm wh hid sets.length go p::Qbq sets::G)) (Qf8 ⟨nm,wh,hid,sets,go,p⟩) (H.set j o):=by
 refine Cv.le (Qq (n0:=H.length) 4 Z (by simp) rfl) ?_;have e:(rws Ql.c sets).take (sets.length*7)=rws Ql.c sets:=VD (by rw[QaF Ql.len]; exact Vb _);have h1:SV.fz H.length [] (x::y::QaQ H.length nm wh hid sets.length go p::Qbq sets::G) 3 (exN wh)=exN wh:=Qdl (QtN _ _);simp only[Qbq]at h1;simp[Qh.c,Qf8,Qbq,QaF Ql.len,e,h1];exact QeW (leL.cons (SV.le.refl _) (leL.cons (QjW _) (leL.cons (SV.le.refl _) (leL.cons (SV.le.refl _) (leL.cons (SV.le.refl _) (leL.cons (SV.le.refl _) leL.nil))))))
theorem QBx (hp:Qd c [103,111,116,111] r=false):Qb2 c r=([],r):=by unfold Qb2; rw[Zq (by simp[hp])]
theorem QBQ (hp:Qd c [103,111,116,111] r=true):Qb2 c r=QhI c (Qa r):=by unfold Qb2 QhI; rw[Zr hp,Qc4 hp]
theorem Qzy (hn:Q2 c) (h20:c.ts.length<=20000) (hj:j<H.length) (Z:closed H) (he:r.e=0) (ha:r.a<=c.ts.length) {G:ZI} {U:Env} {res:Qh×Rd}
 (ag:(⟨nm,wh,hid,sets,(Qb2 c r).1,p⟩,(Qb2 c r).2)=res) (h1:U.get 1=rp H.length) (h2:U.get 2=rp (H.length+1)) (h3:U.get 3=rp (H.length+2)) :
 X Tryz.prog Tryz.f182.ntmps Qf (IC.tl 8 Qaq) U (H.set j (ae c r)++(bxO j::aZ::QaQ H.length nm wh hid sets.length [] p::Qbq sets::G)) (FinP H.length QhF (PdV c H j Qf8 res)):=by
 have hct:c.ts.length<4611686018427387904:=by omega
 have h202:=QAG (H:=H.set j (ae c r)++(bxO j::aZ::QaQ H.length nm wh hid sets.length [] p::Qbq sets::G)) hn (F:=QhI c) (f:=.fn (.func 201) [] [rp H.length]) rfl rfl (by simp[rp,SV.under,SV.underL]) (s:=[103,111,116,111]) rfl (Qb4 hj (ae c r) _) hct ha he
  (λhp=>by
   have hlt:=QaP hp;rw[QaM hj];refine QiW (a:=[]) (b:=[rp H.length]) (by
    have:=QwQ (H:=H.set j (ae c (Qa r))++(bxO j::aZ::QaQ H.length nm wh hid sets.length [] p::Qbq sets::G)) (q:=H.length) hn hct (by simp) (Qb4 hj (ae c (Qa r)) _) he hlt;simpa using this))
 have hy:=QBQ (c:=c) (r:=r);have hno:=QBx (c:=c) (r:=r);by_cases hp:Qd c [103,111,116,111] r=true
 . rw[Zr hp]at h202;rw[hy hp]at ag;generalize QhI c (Qa r)=g at h202 ag;simp[IC.tl,Qaq,QhF,h1,rp,bxO];refine Qad (by simpa[rp,bxO]using h202) (λay => ?_) (λay H' hk => ?_)
   . rw[QaM hj];simp[wdN,wds];refine Qp hm Qmp.eq_1 ?_;simp[h2,h3,rp,QaQ,aZ];refine Qp hm Qmp.eq_1 ?_;simp;refine⟨_,_,PdV.got (x:=⟨nm,wh,hid,sets,g.1,p⟩) ay ag.symm rfl rfl,?_⟩;have hc1:closed (H.set j (ae c g.2)):=QbQ (c:=c) (a:=g.2.a) (v:=g.2.v) Z;have:=Qqj (nm:=nm) (wh:=wh) (hid:=hid) (sets:=sets) (p:=p) (go:=g.1) (x:=bxO j) (y:=⟨[st (B nm),exN wh,bl hid,.own (H.length+3) 0 sets.length 7 sets.length,st (B g.1),V p],89,0,true⟩) (G:=G) hc1;simpa[QaQ,bxO,rp]using this
   . simp;have hb:res.2=g.2:=by rw[<-ag]
     rw[<-hb]at ay ⊢;exact⟨_,_,PdV.pan ay hk.of_set,Qi⟩
 . rw[Zq hp]at h202;rw[Vm]at hp;rw[hno hp]at ag;simp[IC.tl,Qaq,QhF,h1,rp,bxO];refine Qad (by simpa[rp,bxO]using h202) (λay => ?_) (λay H' hk=>absurd he ay);rw[QaM hj];have n1:(SV.val (Value.slice none 0 0)).isSl=true:=rfl;have n2:(SV.val (Value.slice none 0 0)).slen=0:=rfl;simp[wdN,n1,n2];refine Qp hm Qmp.eq_1 ?_;simp[h2,h3,rp,QaQ,aZ];refine⟨_,_,PdV.got (x:=⟨nm,wh,hid,sets,[],p⟩) he ag.symm rfl rfl,?_⟩;have hc1:closed (H.set j (ae c r)):=QbQ (c:=c) (a:=r.a) (v:=r.v) Z;have:=Qqj (nm:=nm) (wh:=wh) (hid:=hid) (sets:=sets) (p:=p) (go:=[]) (x:=bxO j) (y:=⟨[st (B nm),exN wh,bl hid,.own (H.length+3) 0 sets.length 7 sets.length,st (B []),V p],89,0,true⟩) (G:=G) hc1;simpa[QaQ,bxO,rp]using this
theorem QwU (hn:Q2 c) (h20:c.ts.length<=20000) (hj:j<H.length) (Z:closed H) {d:Nat} {F:Rd->Ex×Rd} (hF:PdC c 32 [] F d) (hkF:Kp c d F) (hst:QJ F) (hg:Gd c d r) (he:r.e=0) {G:ZI} {U:Env} {res:Qh×Rd}
 (ag:(λs:List Ql×Rd=>((⟨nm,wh,hid,s.1,(Qb2 c (t2 c [125] s.2)).1,p⟩,(Qb2 c (t2 c [125] s.2)).2):Qh×Rd)) (Qb8 c F (c.ts.length+1) [] (t2 c [123] r))=res) (h1:U.get 1=rp H.length) (h2:U.get 2=rp (H.length+1)) (h3:U.get 3=rp (H.length+2)) :
 X Tryz.prog Tryz.f182.ntmps Qf (IC.tl 6 Qaq) U (H.set j (ae c r)++(bxO j::aZ::QaQ H.length nm wh hid 0 [] p::Qbq []::G)) (FinP H.length QhF (PdV c H j Qf8 res)):=by
 have hct:c.ts.length<4611686018427387904:=by omega
 have tail:∀ (sets:List Ql) (r:Rd) (G:ZI) (U:Env),r.e=0->r.a<=c.ts.length->(⟨nm,wh,hid,sets,(Qb2 c r).1,p⟩,(Qb2 c r).2)=res->U.get 1=rp H.length->U.get 2=rp (H.length+1)->U.get 3=rp (H.length+2)->_:=λsets r G U he ha hr h1 h2 h3=>Qzy (G:=G) hn h20 hj Z he ha hr h1 h2 h3;rw[show IC.tl 6 Qaq=.seq (IC.nth 6 Qaq) (IC.tl 7 Qaq)from rfl,show IC.tl 7 Qaq=.seq (IC.nth 7 Qaq) (IC.tl 8 Qaq)from rfl];generalize IC.tl 8 Qaq=t8 at tail ⊢;have hw:=Qef (H:=H) (j:=j) (r:=r) (L:=bxO j::aZ::QaQ H.length nm wh hid 0 [] p::Qbq []::(G++[⟨[st (B [123])],9,0,true⟩])) (q:=G.length+4) (n:=1) (T:=9) (ver:=0) (l:=[[123]]) hn hct hj (by simp[wds]) rfl (by simp) (by intro s hs; simp at hs; subst hs; rfl) he hg.a;have hg1:=(QM (c:=c) (d:=d) [123] hg).1;simp[IC.nth,Qaq,h1,rp,bxO];refine Qad (by simpa[rp,bxO,QaQ]using hw) (λay => ?_) (λay H' hk => ?_)
 . rw[QaM hj];simp only[Qas]at ay ⊢;generalize t2 c [123] r=r1 at hg1 ay ag ⊢;simp;generalize hs:Qb8 c F (c.ts.length+1) [] r1=s at ag;refine LI.cong (H':=H.set j (ae c r1)++(bxO j::aZ::QaQ H.length nm wh hid ([]:List Ql).length [] p::Qbq []::(G++[⟨[st (B [123])],9,0,true⟩]))) (by simp[bxO,rp]) ?_;refine QvY hn h20 hj hF hkF hst (res:=s) (λU G hs0 hp hgs h1 h2 h3 => ?_) (λhs0 U H' hk => ?_) (c.ts.length+1) [] r1 _ _ (by omega) (by simp) hs hg1 ay ?_ ?_ ?_
   . simp;exact tail s.1 (Qa s.2) G U hs0 (QaP hp) (by rw[<-ag]; simp only[Qc4 hp]) h1 h2 h3
   . simp;have hb:res.2=s.2:=by
      rw[<-ag];simp only[Q5 _ hs0,Qgv _ hs0]
     rw[<-hb]at hs0 ⊢;exact⟨_,_,PdV.pan hs0 hk,Qi⟩
   all_goals simp[h1,h2,h3,rp]
 . simp;rw[Qas]at ay;have hb:res.2=t2 c [123] r:=by
    rw[<-ag,Qff ay];simp only[Q5 _ ay,Qgv _ ay]
   simp only[Qas];rw[<-hb]at ay ⊢;exact⟨_,_,PdV.pan ay hk.of_set,Qi⟩
theorem Qv3 (s:ZG):Qbh c s r=(Qd c s r,Qab c s r):=by
 unfold Qbh Qab;by_cases hp:Qd c s r=true
 . rw[Zr hp,Zr hp,Qc4 hp,hp]
 . rw[Zq hp,Zq hp]; rw[Vm]at hp; rw[hp]
theorem QCG (hn:Q2 c) (h20:c.ts.length<=20000) (hj:j<H.length) (Z:closed H) {d:Nat} {F:Rd->Ex×Rd} (hF:PdC c 32 [] F d) (hkF:Kp c d F) (hst:QJ F) (hg:Gd c d r) (he:r.e=0) {U:Env} {res:Qh×Rd}
 (ag:Qaa c F r=res) (h1:U.get 1=rp H.length) (h2:U.get 2=rp (H.length+1)) (h3:U.get 3=rp (H.length+2)) :
 X Tryz.prog Tryz.f182.ntmps Qf (IC.tl 2 Qaq) U (H.set j (ae c r)++(bxO j::aZ::QaQ H.length [] [] false 0 [] (Qm c r)::Qbq []::[])) (FinP H.length QhF (PdV c H j Qf8 res)):=by
 have hct:c.ts.length<4611686018427387904:=by omega
 have tail:∀ (nm:ZG) (wh:List Ex) (hid:Bool) (r':Rd) (G:ZI) (U:Env),Gd c d r'->r'.e=0->_->U.get 1=rp H.length->U.get 2=rp (H.length+1)->U.get 3=rp (H.length+2)->_:=λnm wh hid r' G U hg he hr h1 h2 h3=>QwU (G:=G) (nm:=nm) (wh:=wh) (hid:=hid) (p:=Qm c r) (r:=r') (res:=res) hn h20 hj Z hF hkF hst hg he hr h1 h2 h3;have bad:∀ rf:Rd,rf.e≠0->res.2=rf->∀ H',Qu H [j] H'->PdV c H j Qf8 res (.pan (QZ rf.e rf.p)) H':=by
  intro rf hf hs H' hk;rw[<-hs]at hf ⊢;exact PdV.pan hf hk
 unfold Qaa at ag;simp only[Qom,Qms]at ag;rw[show IC.tl 2 Qaq=.seq (IC.nth 2 Qaq) (IC.tl 3 Qaq)from rfl,show IC.tl 3 Qaq=.seq (IC.nth 3 Qaq) (IC.tl 4 Qaq)from rfl,show IC.tl 4 Qaq=.seq (IC.nth 4 Qaq) (IC.tl 5 Qaq)from rfl,show IC.tl 5 Qaq=.seq (IC.nth 5 Qaq) (IC.tl 6 Qaq)from rfl];generalize IC.tl 6 Qaq=t6 at tail ⊢;generalize Qm c r=pp at tail ag ⊢;have hw:=Qef (H:=H) (j:=j) (r:=r) (L:=bxO j::aZ::QaQ H.length [] [] false 0 [] pp::Qbq []::[⟨[st (B [97,99,116,105,111,110])],9,0,true⟩]) (q:=4) (n:=1) (T:=9) (ver:=0) (l:=[[97,99,116,105,111,110]]) hn hct hj (by simp[wds]) rfl (by simp) (by intro s hs; simp at hs; subst hs; rfl) he hg.a;have hg1:=(QM (c:=c) (d:=d) [97,99,116,105,111,110] hg).1;simp[IC.nth,Qaq,h1,rp,bxO];refine Qad (by simpa[rp,bxO,QaQ]using hw) (λay => ?_) (λay H' hk => ?_)
 . rw[QaM hj];simp only[Qas]at ay ⊢;generalize t2 c [97,99,116,105,111,110] r=r1 at hg1 ay ag ⊢;have h88:=λL=>QiM (c:=c) (r:=r1) hj (by have:=hg1.a; omega) ay L false;simp only[QiT]at h88;have hg2:=(QcC (c:=c) (d:=d) r1 hg1).1;simp[h1,h3,rp,QaQ];generalize QX c r1=w at hg2 h88 ag;refine Qad (by simpa[rp]using h88 _) (λah => ?_) (λah H' hk => ?_)
   . rw[QaM hj];simp;have h181:=λL=>Qqm hn hF (s:=[119,104,101,110]) rfl (Qb4 hj (ae c w.2) L) hct hg2 ah;have hg3:=(Qho hkF [119,104,101,110] _ hg2).1;generalize Qbm c F [119,104,101,110] w.2=q3 at hg3 h181 ag;refine Qad (by simpa[rp]using h181 _) (λhe3 => ?_) (λhe3 H' hk => ?_)
     . rw[QaM hj];simp[h1,h3,rp];have h90:=λL=>Qi8 (c:=c) (r:=q3.2) hn hj (by have:=hg3.a; omega) he3 L (s:=[104,105,100,100,101,110]) rfl;have hg4:=(Qjn [104,105,100,100,101,110] _ hg3).1;have he4:(Qab c [104,105,100,100,101,110] q3.2).e=0:=by unfold Qab; split<;>exact he3
       refine Qb (by simpa[rp]using h90 _) ?_;rw[Qv3]at hg4 ag;simp[h1,h3,rp];refine Xc ?_ (tail w.1 q3.1 (Qd c [104,105,100,100,101,110] q3.2) (Qab c [104,105,100,100,101,110] q3.2) [⟨[st (B [97,99,116,105,111,110])],9,0,true⟩] _ hg4 he4 ag ?_ ?_ ?_)
       . simp[bxO,QaQ,rp,Qbq,rws]
       all_goals simp[h1,h2,h3,rp]
     . simp;refine⟨_,_,bad _ he3 ?_ _ hk.of_set,Qi⟩;rw[<-ag];simp only[Qjj _ _ he3,Q5 _ he3,Qff he3,Qgv _ he3]
   . simp;refine⟨_,_,bad _ ah ?_ _ hk.of_set,Qi⟩;rw[<-ag];simp only[QeR _ _ ah,Qjj _ _ ah,Q5 _ ah,Qff ah,Qgv _ ah]
 . simp;rw[Qas]at ay;refine⟨_,_,bad _ ay ?_ _ hk.of_set,Qi⟩;rw[<-ag];simp only[QlJ _ ay,QeR _ _ ay,Qjj _ _ ay,Q5 _ ay,Qff ay,Qgv _ ay]
theorem QyC (hn:Q2 c) (h20:c.ts.length<=20000) {d:Nat} {F:Rd->Ex×Rd} (hF:PdC c 32 [] F d) (hkF:Kp c d F) (hst:QJ F) (ho:H[j]? = some (ae c r)) (hg:Gd c d r) (he:r.e=0):OkP Tryz.prog 182 [rp j] H (PdV c H j Qf8 (Qaa c F r)):=by
 have hj:=Qk ho;have h91:=λL=>QgH (H:=H++L) (c:=c) (r:=r) (j:=j) (by rw[Vc hj]; exact ho);refine QpF hm Tryz.func182 c182 (by simp[rp]) λZ => ?_;have tail:∀ U:Env,U.get 1=rp H.length->U.get 2=rp (H.length+1)->U.get 3=rp (H.length+2)->_:=λU h1 h2 h3=>QCG (r:=r) (res:=Qaa c F r) hn h20 hj Z hF hkF hst hg he rfl h1 h2 h3;rw[show Qaq=.seq (IC.nth 0 Qaq) (.seq (IC.nth 1 Qaq) (IC.tl 2 Qaq))from rfl];generalize IC.tl 2 Qaq=t2' at tail ⊢;refine WI.seq (Qb1 hm) ?_;simp[IC.nth,Qaq,rp];refine WI.seq (Qb1 hm) ?_;simp;refine Qb (by simpa[rp]using h91 _) ?_;simp;refine⟨rfl,WI.tell (Qat.own0 (j:=H.length+2) (p:=3) (o:=⟨[st (B []),nl,bl false,nl,st (B []),V (Qm c r)],89,0,true⟩) (by simp) rfl rfl 91 7) ?_⟩;refine WI.cong (H':=H.set j (ae c r)++(bxO j::aZ::QaQ H.length [] [] false 0 [] (Qm c r)::Qbq []::[])) ?_ ?_
 . rw[QcZ ho];simp[aZ,QaQ,Qbq,rws,bxO,rp,exN]
 . exact WI.of_X (Qb1 hm) (tail _ (by simp[rp]) (by simp[rp]) (by simp[rp]))
end
section
variable {H:ZI} {c:Cx} {r:Rd} {j k:Nat} {lb:ZG} {p:Int} {F:Rd->Ex×Rd}
theorem QC8 (hJ:J2 H j k) {p:AO} {L:ZI} {q n T ver:Nat} {l:ZF} (hL:L[q]? = some ⟨wds l,T,ver,true⟩) (hn':n=l.length) (hl:l.length<4611686018427387904) :
 Ok Tryz.prog 93 [rp j,.own (H.length+q) 0 n 1 ver] (w2 H j k (ae c r) p++L) (.ret (bl (decide ((tkR c r).tx∈l)))) (w2 H j k (ae c r) p++L):=by
 have:=IsS.own1 (H:=w2 H j k (ae c r) p) hL hn';exact Qf9 (QbI hJ L) (by simpa using this) hl
theorem QvR (hn:Q2 c) (hJ:J2 H j k) {p:AO} {L:ZI} {q:Nat} {s:ZG} (hs:Qdc s=true) (he:r.e=0) (hL:L[q]? = some ⟨[st (B s)],9,0,true⟩) :
 Ok Tryz.prog 93 [rp j,.own (H.length+q) 0 1 1 0] (w2 H j k (ae c r) p++L) (.ret (bl (Qd c s r))) (w2 H j k (ae c r) p++L):=by
 have:=QC8 (c:=c) (r:=r) hJ (p:=p) (L:=L) (q:=q) (n:=1) (T:=9) (ver:=0) (l:=[s]) hL rfl (by simp)
 rwa [QhZ hn hs he]at this
def QfH (c:Cx) (F:Rd->Ex×Rd) (lb:ZG) (p:Int) (r:Rd):Qc×Rd :=
 let w:=F r
 let a:=Qaa c F (t2 c [123] w.2)
 let l:=QbY c F 0 c.ts.length [a.1] a.2
 (⟨2,lb,[],0,0,[],false,[],[w.1],l.1,[],p⟩,t2 c [125] l.2)
theorem QyG (r:Rd):Qfg c F { QdZ with lb:=lb } r=QfH c F lb (Qm c r) (t2 c [116,117,114,110] r):=by
 unfold Qfg QfH;simp only[QdZ,Qom,Qms]
def tnC (lb:ZG) (n m:Nat) (p:Int):ZJ:=[V 2,st (B lb),st (B []),V 0,V 0,nl,bl false,nl,.own n 0 1 5 0,.own (n+2) 0 m 6 m,nl,V p]
def tnL (w:Ex) (l:List Qh) (G:ZI):ZI:=⟨w.c,25,0,true⟩::⟨[st (B [123])],9,0,true⟩::⟨rws Qh.c l,89,l.length,true⟩::G
def QgC:IC:=match Qd5 with|.keep _ a=>a|a=>a
set_option maxHeartbeats 2000000 in
theorem Qlq (hn:Q2 c) (h20:c.ts.length<=20000) (hJ:J2 H j k) {d:Nat} (hF:PdC c 32 [] F d) (hkF:Kp c d F) (hst:QJ F) {w:Ex} {N:Nat} {K:ZH} (hg:Gd c d r) (he:r.e=0) {l:List Qh} (hlr:l.length<=r.a) {G:ZI} {U:Env}
 (h0:U.get 0=rp j) (h1:U.get 1=rp k)
 (ai:l≠[]->Qd c [97,99,116,105,111,110] r=false->∀ U G,U.get 0=rp j->U.get 1=rp k->K (.exit 0) U (w2 H j k (ae c r) ⟨tnC lb H.length l.length p,78,0,true⟩++tnL w l G))
 (hnext:Qd c [97,99,116,105,111,110] r=true->l.length≠10->(Qaa c F r).2.e=0->∀ U G,U.get 0=rp j->U.get 1=rp k->LI Tryz.prog N Qf Qd5 U (w2 H j k (ae c (Qaa c F r).2) ⟨tnC lb H.length (l.length+1) p,78,0,true⟩++tnL w (l++[(Qaa c F r).1]) G) K)
 (hbad:∀ rf:Rd,rf.e≠0->(l=[]/\Qd c [97,99,116,105,111,110] r=false/\rf=Qg c 11 r)\/(Qd c [97,99,116,105,111,110] r=true/\l.length=10/\rf=Qg c 12 r)\/(Qd c [97,99,116,105,111,110] r=true/\l.length≠10/\rf=(Qaa c F r).2)->∀ U H',Qu H [j,k] H'->K (.panic (QZ rf.e rf.p)) U H') :
 LI Tryz.prog N Qf Qd5 U (w2 H j k (ae c r) ⟨tnC lb H.length l.length p,78,0,true⟩++tnL w l G) K:=by
 have hct:c.ts.length<4611686018427387904:=by omega
 have ha:=hg.a;have e2:=λo cs L f=>Qf5 (o:=o) (p:=⟨cs,78,0,true⟩) hJ L f;have e3:=λo cs L=>QfE (o:=o) hJ cs 78 L;have h79:=λp L e=>Qdk (QbI (o:=ae c r) (p:=p) hJ L) e;have h182:=λp L=>QyC hn h20 hF hkF hst (QbI (o:=ae c r) (p:=p) hJ L) hg he;have is1:∀ (p:AO) (L:ZI) (q:Nat),L[q]? = some ⟨[st (B [97,99,116,105,111,110])],9,0,true⟩->Ok Tryz.prog 93 [rp j,.own (H.length+q) 0 1 1 0] (w2 H j k (ae c r) p++L) (.ret (bl (Qd c [97,99,116,105,111,110] r))) (w2 H j k (ae c r) p++L):=λp L q hL=>QvR hn hJ (s:=[97,99,116,105,111,110]) rfl he hL;have f11:(Qg c 11 r).e=11/\(Qg c 11 r).p=Qm c r:=by simp[Qg,he]
 have f12:(Qg c 12 r).e=12/\(Qg c 12 r).p=Qm c r:=by simp[Qg,he]
 have hb11:=hbad (Qg c 11 r) (by rw[f11.1]; decide);have hb12:=hbad (Qg c 12 r) (by rw[f12.1]; decide);rw[f11.1,f11.2]at hb11;rw[f12.1,f12.2]at hb12;have hcode:Qd5=.keep [0,1] (.seq (IC.nth 0 QgC) (IC.nth 1 QgC)):=rfl;refine Qp hm hcode ?_;generalize hK:(λ(x:XE) (U:Env) (H:ZI)=>match x with|.normal=>LI Tryz.prog N Qf Qd5 U H K|x=>K x U H)=K'
 have hKn:∀ U H,K' .normal U H=LI Tryz.prog N Qf Qd5 U H K:=λU H=>by rw[<-hK]
 have hKp:∀ x U H,K' (.panic x) U H=K (.panic x) U H:=λx U H=>by rw[<-hK]
 have hKe:∀ n U H,K' (.exit n) U H=K (.exit n) U H:=λn U H=>by rw[<-hK]
 clear hK;have body:∀ (U:Env) (G:ZI),U.get 0=rp j->U.get 1=rp k->(l=[]\/Qd c [97,99,116,105,111,110] r=true) ->
  X Tryz.prog N Qf (IC.nth 1 QgC) U (w2 H j k (ae c r) ⟨tnC lb H.length l.length p,78,0,true⟩++tnL w l G) K':=by
  intro U G h0 h1 hc;simp -implicitDefEqProofs[IC.nth,QgC,Qd5,h0,rp,tnC,tnL];refine Qb (by simpa[rp,tnC,tnL]using is1 ⟨tnC lb H.length l.length p,78,0,true⟩ (tnL w l (G++[⟨[st (B [97,99,116,105,111,110])],9,0,true⟩])) (G.length+3) (by simp[tnL])) ?_;by_cases hp:Qd c [97,99,116,105,111,110] r=true
  . simp -implicitDefEqProofs[h0,h1,rp,e3,hp];by_cases h10:l.length=10
    . have h10':(l.length:Int)=10:=by omega
      simp -implicitDefEqProofs[h10'];refine Qb (by simpa[rp,tnC,tnL]using h79 _ _ 12) ?_;simp -implicitDefEqProofs;rw[hKp];exact hb12 (.inr (.inl ⟨hp,h10,rfl⟩)) _ _ (Qu.w2 hJ (Qu.refl _ _))
    . have h10':¬ (l.length:Int)=10:=by omega
      have hb3:=λh=>hbad (Qaa c F r).2 h (.inr (.inr ⟨hp,h10,rfl⟩));have hn3:=hnext hp h10;simp -implicitDefEqProofs[h10'];generalize Qaa c F r=a at h182 hb3 hn3;refine Qad (by simpa[rp]using h182 _ _) (λay => ?_) (λay H' hk => ?_)
      . rw[Qa7 hJ];simp -implicitDefEqProofs[e2,e3,Qf8,QaF Qh.c_len];refine⟨by omega,by omega,?_⟩;rw[hKn];refine LI.cong ?_ (hn3 ay _ (G++[⟨[st (B [97,99,116,105,111,110])],9,0,true⟩,⟨a.1.c,89,0,true⟩]) ?_ ?_)
        . simp[tnC,tnL,Qh3,rws]
        all_goals simp[h0,h1,rp]
      . simp -implicitDefEqProofs;rw[hKp];exact hb3 ay _ _ (hk.w2 hJ)
  . have hl0:=hc.resolve_right hp;rw[Vm]at hp;simp -implicitDefEqProofs[h0,rp,hp];refine Qb (by simpa[rp,tnC,tnL]using h79 _ _ 11) ?_;simp -implicitDefEqProofs;rw[hKp];exact hb11 (.inl ⟨hl0,hp,rfl⟩) _ _ (Qu.w2 hJ (Qu.refl _ _))
 generalize IC.nth 1 QgC=B1 at body ⊢;by_cases hl0:l=[]
 . subst hl0;simp -implicitDefEqProofs[IC.nth,QgC,Qd5,h0,h1,rp,e3,tnC,tnL];refine Qcf _ _ _ _ ?_;simp -implicitDefEqProofs;exact body _ G (by simp[rp]) (by simp[rp]) (.inl rfl)
 . simp -implicitDefEqProofs[IC.nth,QgC,Qd5,h0,h1,rp,e3,tnC,tnL,hl0];refine QL (r:=bl (Qd c [97,99,116,105,111,110] r)) (λ_=>by simpa[rp,tnC,tnL,SV.strip]using is1 ⟨tnC lb H.length l.length p,78,0,true⟩ (tnL w l (G++[⟨[st (B [97,99,116,105,111,110])],9,0,true⟩])) (G.length+3) (by simp[tnL])) ?_;by_cases hp:Qd c [97,99,116,105,111,110] r=true
   . simp -implicitDefEqProofs[hp];refine Xc ?_ (body _ (G++[⟨[st (B [97,99,116,105,111,110])],9,0,true⟩]) (by simp[rp]) (by simp[rp]) (.inr hp));simp[tnC,tnL]
   . rw[Vm]at hp;simp -implicitDefEqProofs[hp];rw[hKe];refine ai hl0 hp _ (G++[⟨[st (B [97,99,116,105,111,110])],9,0,true⟩]) ?_ ?_<;>simp[rp]
theorem Qiz {n:Nat} {l:List Qh} (h:r.e≠0):QbY c F 0 n l r=(l,r):=by
 cases n with
 |zero=>rfl
 |succ n=>rw[QbY,Zq (by rw[QbM h]; decide)]
theorem QDZ (hn:Q2 c) (h20:c.ts.length<=20000) (hJ:J2 H j k) {d:Nat} (hF:PdC c 32 [] F d) (hkF:Kp c d F) (hst:QJ F) {w:Ex} {N:Nat} {K:ZH} {res:List Qh×Rd}
 (ai:res.2.e=0->Gd c d res.2->∀ U G,U.get 0=rp j->U.get 1=rp k->K (.exit 0) U (w2 H j k (ae c res.2) ⟨tnC lb H.length res.1.length p,78,0,true⟩++tnL w res.1 G))
 (hpan:res.2.e≠0->∀ U H',Qu H [j,k] H'->K (.panic (QZ res.2.e res.2.p)) U H') :
 ∀ (n:Nat) (l:List Qh) (r:Rd) (G:ZI) (U:Env),c.ts.length<=r.a+n->l≠[]->l.length<=r.a->QbY c F 0 n l r=res->Gd c d r->r.e=0->U.get 0=rp j->U.get 1=rp k ->
  LI Tryz.prog N Qf Qd5 U (w2 H j k (ae c r) ⟨tnC lb H.length l.length p,78,0,true⟩++tnL w l G) K:=by
 intro n
 induction n with
 |zero =>
  intro l r G U hna hl hlr hr hg he h0 h1;have hp:Qd c [97,99,116,105,111,110] r=false:=by rw[<-Vm]; intro h; have:=QaP h; omega
  rw[QbY]at hr;subst hr;refine Qlq hn h20 hJ hF hkF hst hg he hlr h0 h1 (λ_ _=>ai he hg) (λh=>by rw[hp]at h; cases h) (λrf _ h => ?_)
  rcases h with h|h|h
  . exact absurd h.1 hl
  . rw[hp]at h; cases h.1
  . rw[hp]at h; cases h.1
 |succ n ih =>
  intro l r G U hna hl hlr hr hg he h0 h1;rw[QbY]at hr;by_cases hp:Qd c [97,99,116,105,111,110] r=true
  . rw[Zr hp]at hr;simp only at hr;have hlt:=QaP hp;have ht:(Qj c [97,99,116,105,111,110] r).2=Qa r:=by simp[Qj,hp]
    have hstr:r.a+1<=(Qaa c F r).2.a:=by
     have:=QpX hkF (r:=r) (by rw[ht]; exact hg.next hlt)
     rw[ht]at this;exact this
    obtain⟨k1,k2⟩:=Qjq hkF r hg;refine Qlq hn h20 hJ hF hkF hst hg he hlr h0 h1 (λ_ h=>by rw[hp]at h; cases h) (λ_ h10 ay U G h0 h1 => ?_) (λrf hf h => ?_)
    . rw[Zq h10]at hr;refine LI.cong ?_ (ih (l++[(Qaa c F r).1]) (Qaa c F r).2 G U (by omega) (by simp) (by simp; omega) hr k1 ay h0 h1);simp
    . rcases h with h|h|h
      . exact absurd h.1 hl
      . rw[Zr h.2.1,<- h.2.2]at hr;have hb:(Qaa c F rf).2=rf:=Qoo rf hf;rw[Qiz (by rw[hb]; exact hf),hb]at hr;have:res.2=rf:=by rw[<-hr]
        rw[<-this]at hf ⊢;exact hpan hf
      . rw[Zq h.2.1,<- h.2.2,Qiz hf]at hr;have:res.2=rf:=by rw[<-hr]
        rw[<-this]at hf ⊢;exact hpan hf
  . rw[Zq hp]at hr;rw[Vm]at hp;subst hr;refine Qlq hn h20 hJ hF hkF hst hg he hlr h0 h1 (λ_ _=>ai he hg) (λh=>by rw[hp]at h; cases h) (λrf _ h => ?_)
    rcases h with h|h|h
    . exact absurd h.1 hl
    . rw[hp]at h; cases h.1
    . rw[hp]at h; cases h.1
theorem QxP (he:r.e=0) (hp:Qd c [97,99,116,105,111,110] r=false):(Qaa c F r).2=Qg c 11 r:=by
 have hb:(Qg c 11 r).e≠0:=by simp[Qg,he]
 have ht:t2 c [97,99,116,105,111,110] r=Qg c 11 r:=by simp[t2,Qj,hp]
 unfold Qaa;simp only[Qms,ht,QlJ _ hb,QeR _ _ hb,Qjj _ _ hb,Q5 _ hb,Qff hb,Qgv _ hb]
end
section
variable {H:ZI} {c:Cx} {r:Rd} {j k:Nat} {lb:ZG} {p:Int} {F:Rd->Ex×Rd}
theorem Qsg:∀ (n:Nat) (l:List Qh) (r:Rd),l.length<=(QbY c F 0 n l r).1.length
 |0,l,r=>Vb _
 |n+1,l,r=>by
  rw[QbY];split
  . have:=Qsg n (l++[(Qaa c F (if l.length=10 then Qg c 12 r else r)).1]) (Qaa c F (if l.length=10 then Qg c 12 r else r)).2;simp only[Vj,Vh,VH]at this;simp only;omega
  . exact Vb _
theorem Qyp (hn:Q2 c) (h20:c.ts.length<=20000) (Z:closed H) (hJ:J2 H j k) (he:r.e=0) (ha:r.a<=c.ts.length) {w:Ex} {l:List Qh} (hl0:l≠[]) {G:ZI} {U:Env} (h0:U.get 0=rp j) {res:Qc×Rd}
 (ag:(⟨2,lb,[],0,0,[],false,[],[w],l,[],p⟩,t2 c [125] r)=res) :
 X Tryz.prog Tryz.f148.ntmps Qf (IC.tl 4 Qd8) U (w2 H j k (ae c r) ⟨tnC lb H.length l.length p,78,0,true⟩++tnL w l G) (FinP H.length QkE (PdS c H j k res)):=by
 have hct:c.ts.length<4611686018427387904:=by omega
 subst ag;have hw:=QfA (p:=⟨tnC lb H.length l.length p,78,0,true⟩) (L:=tnL w l (G++[⟨[st (B [125])],9,0,true⟩])) (q:=G.length+3) (n:=1) (T:=9) (ver:=0) (l:=[[125]]) hn hct hJ (by simp[wds,tnL]) rfl (by simp) (by intro s hs; simp at hs; subst hs; rfl) he ha;simp[IC.tl,Qd8,QkE,h0,rp,tnL];refine Qad (by simpa[rp,tnL]using hw) (λah => ?_) (λah H' hk => ?_)
 . rw[Qa7 hJ];simp;rw[Qas]at ah ⊢;refine⟨_,_,PdS.ret (q:=(⟨2,lb,[],0,0,[],false,[],[w],l,[],p⟩,t2 c [125] r)) ah rfl,?_⟩;refine QoL (L:=tnL w l (G++[⟨[st (B [125])],9,0,true⟩])) rfl Z hJ ?_;have e1:=(Rw.own (n:=H.length) (q:=0) (m:=1) (sz:=5) (ver:=0) (T:=25) (L:=tnL w l (G++[⟨[st (B [125])],9,0,true⟩])) (cells:=w.c) rfl (by simp) (Ex.und _ w)).fz [] 1;have e2:=(Rw.own (n:=H.length) (q:=2) (m:=l.length) (sz:=6) (ver:=l.length) (T:=89) (L:=tnL w l (G++[⟨[st (B [125])],9,0,true⟩])) (cells:=rws Qh.c l) rfl (QaF Qh.c_len l) (Qfj (Qh.und _) l)).fz [] 1;simp only[VE,Yb]at e1 e2;simp only[tnC,Vl,VM,Qc.cN,e1,e2];simp[exN,acN,inN,hl0,an,Ex.cL]
 . simp;exact⟨_,_,PdS.pan (q:=(⟨2,lb,[],0,0,[],false,[],[w],l,[],p⟩,t2 c [125] r)) ah (hk.w2 hJ),Qi⟩
theorem QC5 (hn:Q2 c) (h20:c.ts.length<=20000) (hJ:J2 H j k) {d:Nat} (hF:PdC c 32 [] F d) (hkF:Kp c d F) (hst:QJ F) (ho:H[j]? = some (ae c r)) (hk0:H[k]? = some ⟨sC lb p,78,0,true⟩) (hg:Gd c d r) (he:r.e=0) :
 OkP Tryz.prog 148 [rp j,rp k] H (PdS c H j k (QfH c F lb p r)):=by
 have hct:c.ts.length<4611686018427387904:=by omega
 have ha:=hg.a;have e2n:=λo cs f=>Qnw (o:=o) (p:=⟨cs,78,0,true⟩) hJ f;have e3n:=λo cs=>QmZ (o:=o) hJ cs 78;have e2:=λo cs L f=>Qf5 (o:=o) (p:=⟨cs,78,0,true⟩) hJ L f;have e3:=λo cs L=>QfE (o:=o) hJ cs 78 L;refine QaY hm Tryz.func148 c148 (by simp[rp]) λZ => ?_;refine Xc (H':=w2 H j k (ae c r) ⟨sC lb p,78,0,true⟩) (QmW ho hk0) ?_;have tail:∀ (w:Ex) (l:List Qh) (r:Rd) (G:ZI) (U:Env) (res:Qc×Rd),r.e=0->r.a<=c.ts.length->l≠[]->U.get 0=rp j->_->_:=λw l r G U res he ha hl0 h0 hr=>Qyp (lb:=lb) (p:=p) (G:=G) (U:=U) (res:=res) (w:=w) (l:=l) hn h20 Z hJ he ha hl0 h0 hr;rw[show Qd8=.seq (IC.nth 0 Qd8) (.seq (IC.nth 1 Qd8) (.seq (IC.nth 2 Qd8) (.seq (IC.nth 3 Qd8) (IC.tl 4 Qd8))))from rfl];generalize IC.tl 4 Qd8=t4 at tail ⊢;generalize ag:QfH c F lb p r=res;unfold QfH at ag;have bad:∀ rf:Rd,rf.e≠0->res.2=rf->∀ H',Qu H [j,k] H'->PdS c H j k res (.pan (QZ rf.e rf.p)) H':=by
  intro rf hf hs H' hk;rw[<-hs]at hf ⊢;exact PdS.pan hf hk
 have hc:=λp=>hF (Que (o:=ae c r) (p:=p) hJ) hg he;have hg1:=(hkF _ hg).1;simp[IC.nth,Qd8,QkE,rp,e2n,e3n,sC];refine QQ (by simpa[rp]using hc _) ?_;intro o H' hq;unfold PdP PdV at hq;generalize F r=q at hq hg1 ag;by_cases ay:q.2.e=0
 . rw[Zr ay]at hq;obtain⟨rfl,rfl⟩:=hq;rw[Qu9 hJ];have hw:=QfA (p:=⟨[V 2,st (B lb),st (B []),V 0,V 0,nl,bl false,nl,.own H.length 0 1 5 0,nl,nl,V p],78,0,true⟩) (L:=[⟨q.1.c,25,0,true⟩,⟨[st (B [123])],9,0,true⟩]) (q:=1) (n:=1) (T:=9) (ver:=0) (l:=[[123]]) hn hct hJ (by simp[wds]) rfl (by simp) (by intro s hs; simp at hs; subst hs; rfl) ay hg1.a;have hg2:=(QM (c:=c) (d:=d) [123] hg1).1;simp[e2,e3,Ex.v];refine Qad (by simpa[rp]using hw) (λah => ?_) (λah H' hk => ?_)
   . rw[Qa7 hJ];simp only[Qas]at ah ⊢;try simp only at ag
     have hno:=QxP (c:=c) (r:=t2 c [123] q.2) (F:=F) ah;generalize t2 c [123] q.2=r2 at hg2 ah ag hno ⊢;have hka:=Qjq hkF r2 hg2;simp;refine LI.tell (Qat.own0 (j:=k) (p:=9) (o:=⟨[V 2,st (B lb),st (B []),V 0,V 0,nl,bl false,nl,.own H.length 0 1 5 0,nl,nl,V p],78,0,true⟩) (QjY hJ _) rfl rfl 89 6) ?_;rw[Qq0 hJ];refine LI.cong (H':=w2 H j k (ae c r2) ⟨tnC lb H.length ([]:List Qh).length p,78,0,true⟩++tnL q.1 [] []) (by simp[tnC,tnL,rws]) ?_;refine Qlq hn h20 hJ hF hkF hst hg2 ah (by simp) (by simp[rp]) (by simp[rp]) (λh=>absurd rfl h) (λhp _ he3 U G h0 h1 => ?_) (λrf hf h U H' hk => ?_)
     . have hpos:1<=(Qaa c F r2).2.a:=by
        have ht:(Qj c [97,99,116,105,111,110] r2).2=Qa r2:=by simp[Qj,hp]
        have:=QpX hkF (r:=r2) (by rw[ht]; exact hg2.next (QaP hp))
        rw[ht]at this;simp only[Qa]at this;omega
       generalize Qaa c F r2=a at he3 ag hka hpos ⊢;try simp only at ag
       generalize hs:QbY c F 0 c.ts.length [a.1] a.2=s at ag;refine LI.cong (H':=w2 H j k (ae c a.2) ⟨tnC lb H.length [a.1].length p,78,0,true⟩++tnL q.1 [a.1] G) (by simp) ?_;have hsl:s.1≠[]:=by
        have:=Qsg (c:=c) (F:=F) c.ts.length [a.1] a.2;rw[hs]at this;intro h;rw[h]at this;simp at this
       refine QDZ hn h20 hJ hF hkF hst (res:=s) (λhs0 hgs U G h0 h1 => ?_) (λhs0 U H' hk => ?_) c.ts.length [a.1] a.2 G U (by omega) (by simp) (by simpa using hpos) hs hka.1 he3 h0 h1
       . simp;exact tail q.1 s.1 s.2 G U res hs0 hgs.a hsl h0 ag
       . simp;exact⟨_,_,bad s.2 hs0 (by rw[<-ag]; simp only[Q5 _ hs0]) _ hk,Qi⟩
     . simp;have hrf:(Qaa c F r2).2=rf:=by
        rcases h with h|h|h
        . rw[hno h.2.1,h.2.2]
        . have:=h.2.1; simp at this
        . exact h.2.2.symm
       refine⟨_,_,bad rf hf ?_ _ hk,Qi⟩;rw[<-ag];simp only[hrf,Qiz hf,Q5 _ hf]
   . simp;rw[Qas]at ah;refine⟨_,_,bad _ ah ?_ _ (hk.w2 hJ),Qi⟩;rw[<-ag];simp only[Qoo _ ah,Qiz ah,Q5 _ ah]
 . rw[Zq ay]at hq;obtain⟨rfl,hk⟩:=hq;simp;have hk':Qu H [j,k] H':=(show Qu (w2 H j k (ae c r) _++[]) [j] H' by simpa using hk).w2 hJ;refine⟨_,_,bad _ ay ?_ _ hk',Qi⟩;rw[<-ag];simp only[Q5 _ ay,Qoo _ ay,Qiz ay]
end
section
variable {H:ZI} {c:Cx} {r:Rd} {j k:Nat} {lb:ZG} {p:Int} {F:Rd->Ex×Rd}
def Qhn (c:Cx) (F:Rd->Ex×Rd) (lb:ZG) (p:Int) (r:Rd):Qc×Rd :=
 let e:=QeQ c F (t2 c [112,97,121] (t2 c [123] r))
 (⟨3,lb,[],0,0,[],false,[],[],[],e.1,p⟩,t2 c [125] (t2 c [59] e.2))
def enC (lb:ZG) (n m:Nat) (p:Int):ZJ:=[V 3,st (B lb),st (B []),V 0,V 0,nl,bl false,nl,nl,nl,.own (n+1) 0 (m+1) 5 m,V p]
def enL (l:List Ex) (m:Nat) (G:ZI):ZI:=⟨[st (B [123]),st (B [112,97,121])],9,0,true⟩::⟨Ex.cL l,25,m,true⟩::G
def Nb (c:Cx) (F:Rd->Ex×Rd):Prop:=∀ r:Rd,r.e=0->QdM c r=false->(F r).2=Qg c 11 r
theorem Qi6 {n:Nat} {l:List Ex} (h:r.e≠0):Qcg c F n l r=(l,r):=by
 cases n with
 |zero=>rfl
 |succ n=>rw[Qcg,Zq (by rw[QbM h]; decide)]
set_option maxHeartbeats 2000000 in
theorem Qzi (hn:Q2 c) (h20:c.ts.length<=20000) (hJ:J2 H j k) {d:Nat} (hF:PdC c 32 [] F d) (hkF:Kp c d F) (hst:QJ F) (hnb:Nb c F) {N:Nat} {K:ZH} {res:List Ex×Rd}
 (ai:res.2.e=0->Gd c d res.2->∀ U G m,res.1.length=m+1->U.get 0=rp j->U.get 1=rp k->K (.exit 0) U (w2 H j k (ae c res.2) ⟨enC lb H.length m p,78,0,true⟩++enL res.1 m G))
 (hpan:res.2.e≠0->∀ U H',Qu H [j,k] H'->K (.panic (QZ res.2.e res.2.p)) U H') :
 ∀ (n:Nat) (l:List Ex) (m:Nat) (r:Rd) (G:ZI) (U:Env),c.ts.length<=r.a+n->l.length=m+1->l.length<=r.a->Qcg c F n l r=res->Gd c d r->r.e=0->U.get 0=rp j->U.get 1=rp k ->
  LI Tryz.prog N Qf QgV U (w2 H j k (ae c r) ⟨enC lb H.length m p,78,0,true⟩++enL l m G) K:=by
 have hct:c.ts.length<4611686018427387904:=by omega
 have out:∀ (l:List Ex) (m:Nat) (r:Rd) (G:ZI) (U:Env),Qd c [44] r=false->(l,r)=res->l.length=m+1->Gd c d r->r.e=0->U.get 0=rp j->U.get 1=rp k ->
  LI Tryz.prog N Qf QgV U (w2 H j k (ae c r) ⟨enC lb H.length m p,78,0,true⟩++enL l m G) K:=by
  intro l m r G U hp hr hlm hg he h0 h1;refine Qp hm QgV.eq_1 ?_;have h90:=λp L=>QdH hn (QbI (o:=ae c r) (p:=p) hJ L) (by have:=hg.a; omega) he (s:=[44]) rfl;simp[h0,h1,rp];refine Qb (by simpa[rp]using h90 _ _) ?_;simp only[Qab,hp];simp[h0,h1];rw[Qa7 hJ];subst hr;exact ai he hg _ G m hlm (by simp) (by simp)
 intro n
 induction n with
 |zero =>
  intro l m r G U hna hlm hlr hr hg he h0 h1;exact out l m r G U (by rw[<-Vm]; intro h; have:=QaP h; omega) hr hlm hg he h0 h1
 |succ n ih =>
  intro l m r G U hna hlm hlr hr hg he h0 h1;rw[Qcg]at hr;by_cases hp:Qd c [44] r=true
  . rw[Zr hp]at hr;simp only[Qc4 hp]at hr;have ha:=hg.a;have hg1:=hg.next (QaP hp)
    have ay:(Qa r).e=0:=he;have e2:=λo cs L f=>Qf5 (o:=o) (p:=⟨cs,78,0,true⟩) hJ L f;have e3:=λo cs L=>QfE (o:=o) hJ cs 78 L;have h90:=λp L=>QdH hn (QbI (o:=ae c r) (p:=p) hJ L) (by omega) he (s:=[44]) rfl;have h79:=λp L e=>Qdk (QbI (o:=ae c (Qa r)) (p:=p) hJ L) e;have h183:=λp L=>QyW hn (QbI (o:=ae c (Qa r)) (p:=p) hJ L) ay;have hc:=λp L=>hF (QbI (o:=ae c (Qa r)) (p:=p) hJ L) hg1 ay;refine Qp hm QgV.eq_1 ?_;simp[h0,h1,rp];refine Qb (by simpa[rp]using h90 _ _) ?_;rw[Qa7 hJ];simp only[Qab,hp,Zv];simp[h0,h1,rp,e3,enC,enL];by_cases h32:l.length=32
    . have h32':(m:Int)+1=32:=by omega
      simp[h32'];refine Qb (by simpa[rp]using h183 _ _) ?_;by_cases hb:QdM c (Qa r)=true
      . rw[Zr ⟨h32,hb⟩]at hr;have hf:=QfR (e:=12) (by decide) hg1;have f12:(Qg c 12 (Qa r)).e=12/\(Qg c 12 (Qa r)).p=Qm c (Qa r):=by simp[Qg,ay]
        rw[hst _ hf.2.2,Qi6 hf.2.2]at hr;simp[hb];refine Qb (by simpa[rp]using h79 _ _ 12) ?_;simp;have:=hpan (by rw[<-hr]; exact hf.2.2);rw[<-hr]at this;simp only[f12.1,f12.2]at this;exact this _ _ (Qu.w2 hJ (Qu.refl _ _))
      . rw[Zq (λh=>hb h.2)]at hr;rw[Vm]at hb;have hf:=QfR (e:=11) (by decide) hg1;have f11:(Qg c 11 (Qa r)).e=11/\(Qg c 11 (Qa r)).p=Qm c (Qa r):=by simp[Qg,ay]
        rw[hnb _ ay hb,Qi6 hf.2.2]at hr;simp[hb];refine Qb (by simpa[rp]using h79 _ _ 11) ?_;simp;have:=hpan (by rw[<-hr]; exact hf.2.2);rw[<-hr]at this;simp only[f11.1,f11.2]at this;exact this _ _ (Qu.w2 hJ (Qu.refl _ _))
    . have h32':¬ (m:Int)+1=32:=by omega
      rw[Zq (λh=>h32 h.1)]at hr;have hk2:=hkF _ hg1;simp[h32'];refine QQ (by simpa[rp,enC,enL]using hc _ _) ?_;intro o H' hq;unfold PdP PdV at hq;generalize F (Qa r)=q at hq hr hk2;by_cases ah:q.2.e=0
      . rw[Zr ah]at hq;obtain⟨rfl,rfl⟩:=hq;rw[Qa7 hJ];have hcl5:(Ex.cL l).length=(m+1)*5:=by rw[Qh6,hlm]
        simp[e2,e3,Ex.v,hcl5];have nx:∀ U,U.get 0=rp j->U.get 1=rp k->LI Tryz.prog N Qf QgV U (w2 H j k (ae c q.2) ⟨[V 3,st (B lb),st (B []),V 0,V 0,nl,bl false,nl,nl,nl,.own (H.length+1) 0 (m+1+1) 5 (m+1),V p],78,0,true⟩++(⟨[st (B [123]),st (B [112,97,121])],9,0,true⟩::⟨Ex.cL l++(q.1.c++List.drop ((m+1)*5+5) (Ex.cL l++[V 0,V 0,st ⟨#[]⟩,.val (.slice none 0 0),V 0])),25,m+1,true⟩::G)) K:=by
         intro U g0 g1;have hdr:List.drop ((m+1)*5+5) (Ex.cL l++[V 0,V 0,st ⟨#[]⟩,.val (.slice none 0 0),V 0])=[]:=VZ (by simp[hcl5]);rw[hdr,VE];have hna1:(Qa r).a=r.a+1:=rfl;refine LI.cong ?_ (ih (l++[q.1]) (m+1) q.2 G U (by omega) (by simp[hlm]) (by simp; omega) hr hk2.1 ah g0 g1);simp[enC,enL,QtB]
        refine⟨rfl,by omega,by omega,?_⟩;repeat' constructor
        all_goals first|omega|(refine nx _ ?_ ?_<;>simp[Qiu,rp])
      . rw[Zq ah]at hq;obtain⟨rfl,hk⟩:=hq;simp;rw[Qi6 ah]at hr;subst hr;exact hpan ah _ _ (hk.w2 hJ)
  . rw[Zq hp]at hr;rw[Vm]at hp;exact out l m r G U hp hr hlm hg he h0 h1
end
section
variable {H:ZI} {c:Cx} {r:Rd} {j k:Nat} {lb:ZG} {p:Int} {F:Rd->Ex×Rd}
theorem Qza (hn:Q2 c) (h20:c.ts.length<=20000) (Z:closed H) (hJ:J2 H j k) (he:r.e=0) (ha:r.a<=c.ts.length) {l:List Ex} {m:Nat} (hlm:l.length=m+1) {G:ZI} {U:Env} (h0:U.get 0=rp j) {res:Qc×Rd}
 (ag:(⟨3,lb,[],0,0,[],false,[],[],[],l,p⟩,t2 c [125] (t2 c [59] r))=res) :
 X Tryz.prog Tryz.f149.ntmps Qf (IC.tl 4 Qeh) U (w2 H j k (ae c r) ⟨enC lb H.length m p,78,0,true⟩++enL l m G) (FinP H.length QlP (PdS c H j k res)):=by
 have hct:c.ts.length<4611686018427387904:=by omega
 subst ag;have hw:=QfA (p:=⟨enC lb H.length m p,78,0,true⟩) (L:=enL l m (G++[⟨[st (B [59]),st (B [125])],9,0,true⟩])) (q:=G.length+2) (n:=2) (T:=9) (ver:=0) (l:=[[59],[125]]) hn hct hJ (by simp[wds,enL]) rfl (by simp) (by intro s hs; simp at hs; rcases hs with rfl|rfl<;>rfl) he ha
 simp[IC.tl,Qeh,QlP,h0,rp,enL];refine Qad (by simpa[rp,enL]using hw) (λah => ?_) (λah H' hk => ?_)
 . rw[Qa7 hJ];simp;rw[Qix]at ah ⊢;refine⟨_,_,PdS.ret (q:=(⟨3,lb,[],0,0,[],false,[],[],[],l,p⟩,t2 c [125] (t2 c [59] r))) ah rfl,?_⟩;refine QoL (L:=enL l m (G++[⟨[st (B [59]),st (B [125])],9,0,true⟩])) rfl Z hJ ?_;have e1:=(Rw.own (n:=H.length) (q:=1) (m:=m+1) (sz:=5) (ver:=m) (T:=25) (L:=enL l m (G++[⟨[st (B [59]),st (B [125])],9,0,true⟩])) (cells:=Ex.cL l) rfl (by rw[Qh6,hlm]) (Ex.undL _ l)).fz [] 1;simp only[VE]at e1;have hl0:l≠[]:=by rintro rfl; simp at hlm
   simp only[enC,Vl,VM,Qc.cN,e1];simp[exN,acN,inN,hl0,an,hlm]
 . simp;exact⟨_,_,PdS.pan (q:=(⟨3,lb,[],0,0,[],false,[],[],[],l,p⟩,t2 c [125] (t2 c [59] r))) ah (hk.w2 hJ),Qi⟩
theorem Qvr (hn:Q2 c) (h20:c.ts.length<=20000) (hJ:J2 H j k) {d:Nat} (hF:PdC c 32 [] F d) (hkF:Kp c d F) (hst:QJ F) (hnb:Nb c F) (ho:H[j]? = some (ae c r)) (hk0:H[k]? = some ⟨sC lb p,78,0,true⟩) (hg:Gd c d r) (he:r.e=0) :
 OkP Tryz.prog 149 [rp j,rp k] H (PdS c H j k (Qhn c F lb p r)):=by
 have hct:c.ts.length<4611686018427387904:=by omega
 have ha:=hg.a;have e2n:=λo cs f=>Qnw (o:=o) (p:=⟨cs,78,0,true⟩) hJ f;have e3n:=λo cs=>QmZ (o:=o) hJ cs 78;have e2:=λo cs L f=>Qf5 (o:=o) (p:=⟨cs,78,0,true⟩) hJ L f;have e3:=λo cs L=>QfE (o:=o) hJ cs 78 L;refine QaY hm Tryz.func149 c149 (by simp[rp]) λZ => ?_;refine Xc (H':=w2 H j k (ae c r) ⟨sC lb p,78,0,true⟩) (QmW ho hk0) ?_;have tail:∀ (l:List Ex) (m:Nat) (r:Rd) (G:ZI) (U:Env) (res:Qc×Rd),r.e=0->r.a<=c.ts.length->l.length=m+1->U.get 0=rp j->_->_:=λl m r G U res he ha hlm h0 hr=>Qza (lb:=lb) (p:=p) (G:=G) (U:=U) (res:=res) (l:=l) (m:=m) hn h20 Z hJ he ha hlm h0 hr;rw[show Qeh=.seq (IC.nth 0 Qeh) (.seq (IC.nth 1 Qeh) (.seq (IC.nth 2 Qeh) (.seq (IC.nth 3 Qeh) (IC.tl 4 Qeh))))from rfl];generalize IC.tl 4 Qeh=t4 at tail ⊢;generalize ag:Qhn c F lb p r=res;unfold Qhn QeQ at ag;have bad:∀ rf:Rd,rf.e≠0->res.2=rf->∀ H',Qu H [j,k] H'->PdS c H j k res (.pan (QZ rf.e rf.p)) H':=by
  intro rf hf hs H' hk;rw[<-hs]at hf ⊢;exact PdS.pan hf hk
 have hw:=QfA (p:=⟨[V 3,st (B lb),st (B []),V 0,V 0,nl,bl false,nl,nl,nl,nl,V p],78,0,true⟩) (L:=[⟨[st (B [123]),st (B [112,97,121])],9,0,true⟩]) (q:=0) (n:=2) (T:=9) (ver:=0) (l:=[[123],[112,97,121]]) hn hct hJ (by simp[wds]) rfl (by simp) (by intro s hs; simp at hs; rcases hs with rfl|rfl<;>rfl) he ha
 have hg1:=(QM (c:=c) (d:=d) [112,97,121] (QM (c:=c) (d:=d) [123] hg).1).1;simp[IC.nth,Qeh,QlP,rp,e2n,e3n,sC];refine Qad (by simpa[rp]using hw) (λay => ?_) (λay H' hk => ?_)
 . rw[Qa7 hJ];simp only[Qix]at ay ⊢;have hp1:=(Qh0 ay).2;generalize t2 c [112,97,121] (t2 c [123] r)=r1 at hg1 ay ag hp1 ⊢;have hc:=λp L=>hF (QbI (o:=ae c r1) (p:=p) hJ L) hg1 ay;have hg2:=(hkF _ hg1).1;have hka:=(hkF _ hg1).2;simp;refine QQ (by simpa[rp]using hc _ _) ?_;intro o H' hq;unfold PdP PdV at hq;generalize F r1=q at hq hg2 ag hka;by_cases ah:q.2.e=0
   . rw[Zr ah]at hq;obtain⟨rfl,rfl⟩:=hq;rw[Qa7 hJ];have hpos:1<=q.2.a:=by omega
     simp[e2,e3,Ex.v];generalize hs:Qcg c F c.ts.length [q.1] q.2=s at ag;refine LI.cong (H':=w2 H j k (ae c q.2) ⟨enC lb H.length 0 p,78,0,true⟩++enL [q.1] 0 []) (by simp[enC,enL,Ex.cL]) ?_;refine Qzi hn h20 hJ hF hkF hst hnb (res:=s) (λhs0 hgs U G m hlm h0 h1 => ?_) (λhs0 U H' hk => ?_) c.ts.length [q.1] 0 q.2 [] _ (by omega) rfl (by simpa using hpos) hs hg2 ah ?_ ?_
     . simp;exact tail s.1 m s.2 G U res hs0 hgs.a hlm h0 ag
     . simp;exact⟨_,_,bad s.2 hs0 (by rw[<-ag]; simp only[Q5 _ hs0]) _ hk,Qi⟩
     all_goals simp[rp]
   . rw[Zq ah]at hq;obtain⟨rfl,hk⟩:=hq;simp;refine⟨_,_,bad _ ah ?_ _ (hk.w2 hJ),Qi⟩;rw[<-ag,Qi6 ah];simp only[Q5 _ ah]
 . simp;rw[Qix]at ay;refine⟨_,_,bad _ ay ?_ _ (hk.w2 hJ),Qi⟩;rw[<-ag];generalize t2 c [112,97,121] (t2 c [123] r)=r1 at ay;have hF1:=hst r1 ay;rw[hF1,Qi6 ay];simp only[Q5 _ ay]
end
section
variable {H:ZI} {c:Cx} {r:Rd} {j:Nat} {F:Rd->Ex×Rd}
def QfQ (c:Cx) (F:Rd->Ex×Rd) (r:Rd):Qc×Rd :=
 let l:=Qbg c r
 if Qd c [100,101,97,108] l.2=true then QfG c F l.1 (Qm c l.2) (Qa l.2)
 else if Qd c [116,117,114,110] l.2=true then QfH c F l.1 (Qm c l.2) (Qa l.2)
 else if Qd c [101,110,100] l.2=true then Qhn c F l.1 (Qm c l.2) (Qa l.2)
 else(QdZ,Qg c 11 l.2)
theorem QAQ (hst:QJ F):Qe (QfQ c F r) (QaE c F r):=by
 unfold QfQ QaE;simp only;generalize Qbg c r=l;by_cases h1:Qd c [100,101,97,108] l.2=true
 . rw[Zr h1,Zr h1,Qym,Qc4 h1];by_cases he:(QfG c F l.1 (Qm c l.2) (Qa l.2)).2.e=0
   . exact .inl ⟨he,rfl⟩
   . exact .inr ⟨he,rfl,rfl⟩
 . rw[Zq h1,Zq h1];by_cases h2:Qd c [116,117,114,110] l.2=true
   . rw[Zr h2,Zr h2,QyG,Qc4 h2];by_cases he:(QfH c F l.1 (Qm c l.2) (Qa l.2)).2.e=0
     . exact .inl ⟨he,rfl⟩
     . exact .inr ⟨he,rfl,rfl⟩
   . rw[Zq h2,Zq h2];by_cases h3:Qd c [101,110,100] l.2=true
     . rw[Zr h3];have e:(Qj c [101,110,100] l.2).2=Qa l.2:=by simp[Qj,h3]
       have e1:(Qj c [101,110,100] l.2).1=Qm c l.2:=rfl;simp only[e,e1];by_cases he:(Qhn c F l.1 (Qm c l.2) (Qa l.2)).2.e=0
       . exact .inl ⟨he,rfl⟩
       . exact .inr ⟨he,rfl,rfl⟩
     . rw[Zq h3];rw[Vm]at h3;have e:(Qj c [101,110,100] l.2).2=Qg c 11 l.2:=by simp[Qj,h3]
       simp only[e];by_cases he:l.2.e=0
       . have hb:(Qg c 11 l.2).e≠0:=by simp[Qg,he]
         refine .inr ⟨hb,?_,?_⟩<;>simp only[Q5 _ hb,QlM hst _ hb]
       . rw[Qgl he];refine .inr ⟨he,?_,?_⟩<;>simp only[Q5 _ he,QlM hst _ he]
theorem QxB {o z S o' p':AO} {L:ZI} (hj:j<H.length):w2 (H.set j o++(z::S::L)) j (H.length+1) o' p'=H.set j o'++(z::p'::L):=by
 rw[w2,QaM hj,Yk _ _ (by simp)];simp
theorem J2.s1 {o z S:AO} {L:ZI} (hj:j<H.length):J2 (H.set j o++(z::S::L)) j (H.length+1):=⟨by simp; omega,by simp,by omega⟩
theorem Qu.s1 {o:AO} {L H':ZI} (h:Qu (H.set j o++L) [j,H.length+1] H'):Qu H [j] H':=by
 refine⟨Vf (by simp) h.len,λi hi hn => ?_⟩;simp only[Vd,Vu,Zw]at hn;rw[h.at_ i (by simp; omega) (by simp[hn]; omega),Vc (by simpa using hi),Vg (Ne.symm hn)]
theorem Qmc {o z S:AO} {L:ZI} {ks:ZK} {vs:ZJ} {T v:Nat}:SV.mapOf (H.set j o++(z::S::(L++[⟨.mk ks::vs,T,v,false⟩]))) (.mp (H.length+(L.length+2)) v)=some (ks,vs):=by
 have h:(H.set j o++(z::S::(L++[⟨.mk ks::vs,T,v,false⟩])))[H.length+(L.length+2)]? = some ⟨.mk ks::vs,T,v,false⟩:=by
  rw[Vk (by simp)];simp
 simp only[SV.mapOf,h];rw[Zr ⟨trivial,trivial⟩]
def knK:ZK:=[.string ⟨#[100,101,97,108]⟩,.string ⟨#[116,117,114,110]⟩,.string ⟨#[101,110,100]⟩]
def knV:ZJ:=[.fn (.func 147) [] [],.fn (.func 148) [] [],.fn (.func 149) [] []]
def knM:AO:=⟨.mk knK::knV,184,0,false⟩
theorem Qw2 (s:ZG):lkm (.string (B s)) knK knV=if s=[100,101,97,108]then some (.fn (.func 147) [] [])else if s=[116,117,114,110]then some (.fn (.func 148) [] [])else if s=[101,110,100]then some (.fn (.func 149) [] [])else none:=by
 have e1:(⟨#[100,101,97,108]⟩:ByteArray)=B [100,101,97,108]:=rfl;have e2:(⟨#[116,117,114,110]⟩:ByteArray)=B [116,117,114,110]:=rfl;have e3:(⟨#[101,110,100]⟩:ByteArray)=B [101,110,100]:=rfl;simp only[knK,knV,e1,e2,e3,lkm,QaI];by_cases h1:s=[100,101,97,108]
 . simp[h1]
 . by_cases h2:s=[116,117,114,110]
   . simp[h2]
   . by_cases h3:s=[101,110,100]
     . simp[h3]
     . simp[h1,h2,h3]
theorem QEp (x:Qc):(Qc.cN x).length=12:=rfl
theorem QEL (x:Qc):List.take 12 (Qc.cN x)=Qc.cN x:=rfl
theorem QCZ (x:Qc):QF (Qc.cN x):=by
 intro s hs;simp[Qc.cN]at hs;rcases hs with rfl|rfl|rfl|rfl|rfl|rfl|rfl|rfl|rfl|rfl|rfl|rfl<;>simp
theorem QwC (n:Nat) (x:Qc):SV.underL n (Qc.cN x)=true:=by simp[Qc.cN,SV.underL]
theorem Qvy (hn:Q2 c) (h20:c.ts.length<=20000) (hj:j<H.length) (Z:closed H) {d:Nat} (hF:PdC c 32 [] F d) (hkF:Kp c d F) (hst:QJ F) (hnb:Nb c F) (hg:Gd c d r) (he:r.e=0) {lb:ZG} {L:ZI} {U:Env} {res:Qc×Rd}
 (ag:(if Qd c [100,101,97,108] r=true then QfG c F lb (Qm c r) (Qa r)else if Qd c [116,117,114,110] r=true then QfH c F lb (Qm c r) (Qa r)else if Qd c [101,110,100] r=true then Qhn c F lb (Qm c r) (Qa r)else(QdZ,Qg c 11 r))=res)
 (h0:U.get 0=rp j) (h2:U.get 2=rp H.length) (h3:U.get 3=rp (H.length+1)) :
 X Tryz.prog Tryz.f94.ntmps Qf (IC.tl 3 i94) U (H.set j (ae c r)++(zS::lbO lb::L)) (FinP H.length r94 (PdV c H j Qf1 res)):=by
 have hct:c.ts.length<4611686018427387904:=by omega
 have h139:=λL=>Qex (Qb4 hj (ae c r) L);rw[show IC.tl 3 i94=.seq (IC.nth 3 i94) (IC.tl 4 i94)from rfl,show IC.tl 4 i94=.seq (IC.nth 4 i94) (IC.tl 5 i94)from rfl];generalize ht5:IC.tl 5 i94=t5;simp -implicitDefEqProofs[IC.nth,i94];refine Qb0 (x:=([],[])) Qmc rfl rfl rfl ?_;simp -implicitDefEqProofs[Q9,Q6,SV.key];refine Qb0 (x:=([.string ⟨#[100,101,97,108]⟩],[.fn (.func 147) [] []])) Qmc rfl rfl rfl ?_;simp -implicitDefEqProofs[Q9,Q6,QaI,SV.key];refine Qb0 (x:=([.string ⟨#[100,101,97,108]⟩,.string ⟨#[116,117,114,110]⟩],[.fn (.func 147) [] [],.fn (.func 148) [] []])) Qmc rfl rfl rfl ?_;simp -implicitDefEqProofs[Q9,Q6,QaI,SV.key,h0,rp];refine Qb (by simpa[rp]using h139 _) ?_;have hmp:∀ S,SV.mapOf (H.set j (ae c r)++(zS::S::(L++[knM]))) (.mp (H.length+(L.length+2)) 0)=some (knK,knV):=λS=>Qmc;simp only[knM,knK,knV]at hmp;have hlk:=Qw2 (tkR c r).tx;simp only[knK,knV]at hlk;have m1:(SV.mp (H.length+(L.length+2)) 0).ug=.mp (H.length+(L.length+2)) 0:=rfl;have m2:(SV.mp (H.length+(L.length+2)) 0).vd=true:=rfl;have q1:=Qc2 (c:=c) (r:=r) hn (s:=[100,101,97,108]) rfl he;have q2:=Qc2 (c:=c) (r:=r) hn (s:=[116,117,114,110]) rfl he;have q3:=Qc2 (c:=c) (r:=r) hn (s:=[101,110,100]) rfl he;rw[q1,q2,q3]at ag;simp only[Zs]at ag;have bad:∀ rf:Rd,rf.e≠0->res.2=rf->∀ H',Qu H [j] H'->PdV c H j Qf1 res (.pan (QZ rf.e rf.p)) H':=by
  intro rf hf hs H' hk;rw[<-hs]at hf ⊢;exact PdV.pan hf hk
 simp -implicitDefEqProofs[Tok.v,Tok.c,Qgc,Qjp,hmp,hlk,m1,m2,h0,rp];have h79:=λL=>Qdk (Qb4 hj (ae c r) L) 11;have h140:=λL (h:r.a<4611686018427387904)=>Qgy (Qb4 hj (ae c r) L) h;have fin:∀ (f:Nat) (U:Env) (q:Qc×Rd),q=res->r.a<c.ts.length->U.get 0=rp j->U.get 2=rp H.length->U.get 3=rp (H.length+1)->U.get 5=.fn (.func f) [] []->U.get 6=bl true ->
  (∀ G:ZI,J2 G j (H.length+1)->G[j]? = some (ae c (Qa r))->G[H.length+1]? = some ⟨sC lb (Qm c r),78,0,true⟩->OkP Tryz.prog f [rp j,rp (H.length+1)] G (PdS c G j (H.length+1) q)) ->
  X Tryz.prog Tryz.f94.ntmps Qf t5 U (H.set j (ae c r)++(zS::lbO lb::(L++[⟨.mk knK::knV,184,0,false⟩]))) (FinP H.length r94 (PdV c H j Qf1 res)):=by
  intro f U q hq hlt h0 h2 h3 h5 h6 hf;subst hq;rw[<-ht5];have hfG:=hf (H.set j (ae c (Qa r))++(zS::⟨sC lb (Qm c r),78,0,true⟩::(L++[⟨.mk knK::knV,184,0,false⟩]))) (J2.s1 hj) (Qb4 hj _ _) (by simp);simp -implicitDefEqProofs[IC.tl,i94,r94,h0,h6,rp];refine Qb (by simpa[rp]using Qnx (c:=c) hj r _) ?_;simp -implicitDefEqProofs[h0,h3,rp,lbO];refine Qb (by simpa[rp]using h140 _ (by omega)) ?_;rw[QaM hj];simp -implicitDefEqProofs[h0,h3,h5,rp];refine QQ (by simpa[rp,sC]using hfG) ?_;intro o H' hp;unfold PdS at hp;by_cases ah:q.2.e=0
  . rw[Zr ah]at hp;obtain⟨rfl,rfl⟩:=hp;rw[QxB hj];have c1:=QEp q.1;have c2:=QEL q.1;have c3:=Zz (QCZ q.1);simp -implicitDefEqProofs[h2,h3,rp,stO,zS,c1,c2,c3];refine⟨_,_,PdV.got (x:=q.1) ah rfl rfl rfl,?_⟩;refine Cv.le (Qq (n0:=H.length) (r:=.agg (Qc.cN q.1)) 3 (QbQ (c:=c) (a:=q.2.a) (v:=q.2.v) Z) (by simp) ?_) (QeW (Qxa _));exact Qdl (by simp only[SV.under]; exact QwC _ _)
  . rw[Zq ah]at hp;obtain⟨rfl,hk⟩:=hp;simp -implicitDefEqProofs;exact⟨_,_,PdV.pan ah hk.s1,Qi⟩
 have lt_of:∀ s:ZG,Qd c s r=true->r.a<c.ts.length:=λs h=>QaP h;by_cases h1:(tkR c r).tx=[100,101,97,108]
 . rw[Zr h1]at ag;simp -implicitDefEqProofs[h1];refine⟨⟨rfl,rfl,rfl⟩,?_⟩;refine fin 147 _ _ ag (lt_of _ (by rw[q1]; simpa using h1)) ?_ ?_ ?_ ?_ ?_ (λG hJ hG1 hG2=>QBR hn h20 hJ hF hkF hst hG1 hG2 (hg.next (lt_of _ (by rw[q1]; simpa using h1))) he)
   all_goals simp[h0,h2,h3,rp]
 . rw[Zq h1]at ag;by_cases h2':(tkR c r).tx=[116,117,114,110]
   . rw[Zr h2']at ag;simp -implicitDefEqProofs[h2'];refine⟨⟨rfl,rfl,rfl⟩,?_⟩;refine fin 148 _ _ ag (lt_of _ (by rw[q2]; simpa using h2')) ?_ ?_ ?_ ?_ ?_ (λG hJ hG1 hG2=>QC5 hn h20 hJ hF hkF hst hG1 hG2 (hg.next (lt_of _ (by rw[q2]; simpa using h2'))) he)
     all_goals simp[h0,h2,h3,rp]
   . rw[Zq h2']at ag;by_cases h3':(tkR c r).tx=[101,110,100]
     . rw[Zr h3']at ag;simp -implicitDefEqProofs[h3'];refine⟨⟨rfl,rfl,rfl⟩,?_⟩;refine fin 149 _ _ ag (lt_of _ (by rw[q3]; simpa using h3')) ?_ ?_ ?_ ?_ ?_ (λG hJ hG1 hG2=>Qvr hn h20 hJ hF hkF hst hnb hG1 hG2 (hg.next (lt_of _ (by rw[q3]; simpa using h3'))) he)
       all_goals simp[h0,h2,h3,rp]
     . rw[Zq h3']at ag;have hb:(Qg c 11 r).e=11/\(Qg c 11 r).p=Qm c r:=by simp[Qg,he]
       rw[<-ht5];simp -implicitDefEqProofs[h1,h2',h3',IC.tl,i94,h0,rp];refine⟨⟨rfl,rfl,rfl⟩,?_⟩;have h79':=h79 (zS::lbO lb::(L++[knM]));simp only[knM,knK,knV,rp]at h79';refine Qb h79' ?_;simp -implicitDefEqProofs;have:=λH' hk=>bad (Qg c 11 r) (by rw[hb.1]; decide) (by rw[<-ag]) H' hk;rw[hb.1,hb.2]at this;exact⟨_,_,this _ (Qu.of_set (o:=ae c r) (Qu.refl _ _)),Qi⟩
theorem QD0 (hn:Q2 c) (h20:c.ts.length<=20000) {d:Nat} (hF:PdC c 32 [] F d) (hkF:Kp c d F) (hst:QJ F) (hnb:Nb c F) (ho:H[j]? = some (ae c r)) (hg:Gd c d r) (he:r.e=0):OkP Tryz.prog 94 [rp j] H (PdV c H j Qf1 (QfQ c F r)):=by
 have hj:=Qk ho;have hct:c.ts.length<4611686018427387904:=by omega
 have ha:=hg.a;refine QaY hm Tryz.func94 c94 (by simp[rp]) λZ => ?_;have tail:∀ (lb:ZG) (r1:Rd) (L:ZI) (U:Env),Qbg c r=(lb,r1)->Gd c d r1->r1.e=0->U.get 0=rp j->U.get 2=rp H.length->U.get 3=rp (H.length+1) ->
  X Tryz.prog Tryz.f94.ntmps Qf (IC.tl 3 i94) U (H.set j (ae c r1)++(zS::lbO lb::L)) (FinP H.length r94 (PdV c H j Qf1 (QfQ c F r))):=by
  intro lb r1 L U hl hg1 ay h0 h2 h3;exact Qvy (lb:=lb) (L:=L) hn h20 hj Z hF hkF hst hnb hg1 ay (by unfold QfQ; rw[hl]) h0 h2 h3
 have hbad:∀ rf:Rd,rf.e≠0->(Qbg c r).2=rf->∀ H',Qu H [j] H'->PdV c H j Qf1 (QfQ c F r) (.pan (QZ rf.e rf.p)) H':=by
  intro rf hf hs H' hk;have:(QfQ c F r).2=rf:=by
   unfold QfQ;simp only[hs];rw[Zq (by rw[QbM hf]; decide),Zq (by rw[QbM hf]; decide),Zq (by rw[QbM hf]; decide)];exact Qgl hf
  rw[<-this]at hf ⊢;exact PdV.pan hf hk
 have h92:=λL=>QhS (H:=H++L) (c:=c) (r:=r) (j:=j) (by rw[Vc hj]; exact ho) he;have h88:=λL=>QiM (c:=c) (r:=r) hj (by omega) he L false;simp only[QiT]at h88;rw[show i94=.seq (IC.nth 0 i94) (.seq (IC.nth 1 i94) (.seq (IC.nth 2 i94) (IC.tl 3 i94)))from rfl];generalize IC.tl 3 i94=t3 at tail ⊢;refine Xc (H':=H.set j (ae c r)++[]) (by rw[VE]; exact QcZ ho) ?_;have h92p:=λL=>QhS (Qb4 hj (ae c r) L) he;simp -implicitDefEqProofs[IC.nth,i94,rp];refine Qb (by simpa[rp]using h92p _) ?_;by_cases hp:QV c r=true
 . have hl:Qbg c r=((QX c r).1,t2 c [58] (QX c r).2):=by unfold Qbg; rw[Zr hp]
   have hg1:=(QcC (c:=c) (d:=d) r hg).1;rw[hl]at tail hbad;simp -implicitDefEqProofs[hp];generalize QX c r=w at h88 hg1 tail hbad;refine Qad (by simpa[rp]using h88 _) (λay => ?_) (λay H' hk => ?_)
   . rw[QaM hj];have hw:=Qef (H:=H) (j:=j) (r:=w.2) (L:=[zS,lbO w.1,⟨[st (B [58])],9,0,true⟩]) (q:=2) (n:=1) (T:=9) (ver:=0) (l:=[[58]]) hn hct hj (by simp[wds]) rfl (by simp) (by intro s hs; simp at hs; subst hs; rfl) ay hg1.a;have hg2:=(QM (c:=c) (d:=d) [58] hg1).1;simp -implicitDefEqProofs;refine Qad (by simpa[rp,zS,lbO]using hw) (λah => ?_) (λah H' hk => ?_)
     . rw[QaM hj];simp only[Qas]at ah ⊢;simp -implicitDefEqProofs;refine Xc ?_ (tail w.1 (t2 c [58] w.2) [⟨[st (B [58])],9,0,true⟩] _ rfl hg2 ah ?_ ?_ ?_)
       . simp[zS,lbO]
       all_goals simp[rp]
     . simp -implicitDefEqProofs;rw[Qas]at ah;exact⟨_,_,hbad _ ah rfl _ hk.of_set,Qi⟩
   . simp -implicitDefEqProofs;exact⟨_,_,hbad _ ay (Q5 _ ay) _ hk.of_set,Qi⟩
 . have hl:Qbg c r=([],r):=by unfold Qbg; rw[Zq hp]
   simp -implicitDefEqProofs[hp];refine Xc ?_ (tail [] r [] _ hl hg he ?_ ?_ ?_)
   . simp[zS,lbO]
   all_goals simp[rp]
theorem ok94 (hn:Q2 c) (h20:c.ts.length<=20000) {d:Nat} (hF:PdC c 32 [] F d) (hkF:Kp c d F) (hst:QJ F) (hnb:Nb c F) (ho:H[j]? = some (ae c r)) (hg:Gd c d r) (he:r.e=0):OkP Tryz.prog 94 [rp j] H (PdV c H j Qf1 (QaE c F r)) :=
 (QD0 hn h20 hF hkF hst hnb ho hg he).mono λo H' h=>h.eqv (QAQ hst)
end
theorem Qr6:∀ (tx:ZG) (n:Int),0<=n->n<=1000000000->(∀ c∈tx,48<=c.toNat)->(Qak tx n).1=0->0<=(Qak tx n).2/\(Qak tx n).2<=1000000000
 |[],n,h1,h2,_,_=>⟨h1,h2⟩
 |c::r,n,h1,h2,hd,he=>by
  unfold Qak at he ⊢;split at he
  . cases he
  . rename_i hn;rw[Zq hn];have:=hd c (by simp);exact Qr6 r _ (by omega) (by omega) (λx hx=>hd x (by simp[hx])) he
theorem QjJ {l:ZG} {p q q':Nat} {k:Int} {t:Tok} (h:QN l p k q=.tok t q'):t.n=(whE l k (cut l p q) p).2/\(whE l k (cut l p q) p).1=0:=by
 unfold QN at h;split at h
 . cases h
 . rename_i hn
   cases h
   exact⟨rfl,Classical.byContradiction hn⟩
theorem QoC {l tx:ZG} {k:Int} {p:Nat} (hk:k≠2):(whE l k tx p).2=0:=by
 unfold whE;split
 . rfl
 . split
   . rfl
   . rfl
theorem QyZ {l:ZG} {p q:Nat} {t:Tok} (h:Qw l p=.tok t q):0<=t.n/\t.n<=1000000000:=by
 unfold Qw at h;split at h
 . cases h
 . split at h
   . have:=(QjJ h).1; rw[QoC (by decide)]at this; omega
   . split at h
     . obtain⟨h1,h2⟩:=QjJ h;have hd:=Qjr (l:=l) (p:=p);generalize cut l p (Q8 l [3] p)=tx at h1 h2 hd;rw[h1];unfold whE at h2 ⊢;split at h2
       . cases h2
       . split at h2
         . cases h2
         . split at h2
           . rename_i h5; exact absurd rfl h5
           . split at h2
             . cases h2
             . rename_i a1 a2 a3 a4;rw[Zq a1,Zq a2,Zq a3,Zq a4];exact Qr6 tx 0 (by decide) (by decide) (λc hc=>(hd c hc).1) h2
     . split at h
       . have:=(QjJ h).1; rw[QoC (by decide)]at this; omega
       . split at h
         . cases h
         . have:=(QjJ h).1; rw[QoC (by decide)]at this; omega
def QgI (c:Cx):Prop:=∀ t∈c.ts,0<=t.n/\t.n<=1000000000
theorem tokN (l:ZG):QgI ⟨(QB l).1,l.length⟩:=by
 intro t ht;simp only at ht;unfold QB at ht;split at ht
 . simp at ht
 . split at ht
   . obtain⟨p,q,hp,hs⟩:=QiR _ _ ht;exact QyZ hs
   . simp at ht
theorem Qy7 {c:Cx} (h:QgI c) (r:Rd):0<=(nmR c r).1/\(nmR c r).1<=1000000000:=by
 unfold nmR;split
 . rename_i hp;obtain⟨_,hlt,_⟩:=QcV hp;simp only[List.getD,Ve hlt,V8];exact h _ (Vp hlt)
 . simp
section
variable {H:ZI} {c:Cx} {r:Rd} {j:Nat}
theorem QAU (hN:QgI c) (l:List Qn) (hp:Qd c [118,97,114] r=true) {w:ZG×Rd} (hw:Qbk c (decide (l.length=40)) (Qa r)=w) {f:Bool} (hf:Qd c [45] (t2 c [61] w.2)=f) {n:Int×Rd} (hn:nmR c (if f=true then Qa (t2 c [61] w.2)else t2 c [61] w.2)=n) :
 QbU c l r=(⟨w.1,if f=true then IntKind.i64.wrap (-n.1)else n.1,Qm c (Qa r)⟩,t2 c [59] n.2):=by
 have hh:Qm c (if l.length=40/\QV c (Qa r)=true then Qg c 12 (Qa r)else Qa r)=Qm c (Qa r):=by
  split
  . unfold Qg; split<;>rfl
  . rfl
 have hw':QX c (if l.length=40/\QV c (Qa r)=true then Qg c 12 (Qa r)else Qa r)=w:=by
  rw[<-hw]; unfold Qbk; simp only[Zs]
 have hr:=Qy7 hN (if f=true then Qa (t2 c [61] w.2)else t2 c [61] w.2);rw[hn]at hr;unfold QbU;simp only[Qc4 hp,hh,hw']
 cases f with
 |true =>
  have hfl:Qbh c [45] (t2 c [61] w.2)=(true,Qa (t2 c [61] w.2)):=by unfold Qbh; rw[Zr hf,Qc4 hf]
  rw[Zr rfl]at hn;simp only[hfl,hn,Zv,Int.neg_one_mul]
 |false =>
  have hfl:Qbh c [45] (t2 c [61] w.2)=(false,t2 c [61] w.2):=by unfold Qbh; rw[Zq (by rw[hf]; decide)]
  rw[Zq (by decide)]at hn;have e:IntKind.i64.wrap n.1=n.1:=Qam (by omega) (by omega);simp[hfl,hn,e]
theorem Qg7 {n:Nat} {l:List Qn} (h:r.e≠0):QbX c n l r=(l,r):=by
 cases n with
 |zero=>rfl
 |succ n=>rw[QbX,Zq (by rw[QbM h]; decide)]
def Qao (n:Nat) (nm:ZG) (pl:Int) (v s:Nat):AO:=⟨[st (B nm),V pl,.own (n+2) 0 v 3 v,.own (n+3) 0 s 12 s],36,0,true⟩
def rL (n:Nat) (nm:ZG) (pl:Int) (vs:List Qn) (ss:List Qc) (G:ZI):ZI:=zR::Qao n nm pl vs.length ss.length::QdR vs::QdP ss::G
set_option maxHeartbeats 2000000 in
theorem QCz (hn:Q2 c) (hN:QgI c) (h20:c.ts.length<=20000) (hj:j<H.length) {d:Nat} {nm:ZG} {pl:Int} {N:Nat} {K:ZH} {res:List Qn×Rd}
 (ai:res.2.e=0->Gd c d res.2->∀ U G,U.get 0=rp j->U.get 2=rp H.length->U.get 3=rp (H.length+1)->K (.exit 0) U (H.set j (ae c res.2)++rL H.length nm pl res.1 [] G))
 (hpan:res.2.e≠0->∀ U H',Qu H [j] H'->K (.panic (QZ res.2.e res.2.p)) U H') :
 ∀ (n:Nat) (l:List Qn) (r:Rd) (G:ZI) (U:Env),c.ts.length<=r.a+n->l.length<=r.a->QbX c n l r=res->Gd c d r->r.e=0->U.get 0=rp j->U.get 2=rp H.length->U.get 3=rp (H.length+1) ->
  LI Tryz.prog N Qf QhQ U (H.set j (ae c r)++rL H.length nm pl l [] G) K:=by
 have hct:c.ts.length<4611686018427387904:=by omega
 have out:∀ (l:List Qn) (r:Rd) (G:ZI) (U:Env),Qd c [118,97,114] r=false->(l,r)=res->Gd c d r->r.e=0->U.get 0=rp j->U.get 2=rp H.length->U.get 3=rp (H.length+1) ->
  LI Tryz.prog N Qf QhQ U (H.set j (ae c r)++rL H.length nm pl l [] G) K:=by
  intro l r G U hp hr hg he h0 h2 h3;refine Qp hm QhQ.eq_1 ?_;have h90:=λL=>Qi8 (c:=c) (r:=r) hn hj (by have:=hg.a; omega) he L (s:=[118,97,114]) rfl;simp -implicitDefEqProofs[h0,h2,h3,rp];refine Qb (by simpa[rp]using h90 _) ?_;simp only[Qab,hp];simp -implicitDefEqProofs[h0,h2,h3];subst hr;exact ai he hg _ G (by simp) (by simp) (by simp)
 intro n
 induction n with
 |zero =>
  intro l r G U hna hla hr hg he h0 h2 h3;exact out l r G U (by rw[<-Vm]; intro h; have:=QaP h; omega) hr hg he h0 h2 h3
 |succ n ih =>
  intro l r G U hna hla hr hg he h0 h2 h3;rw[QbX]at hr;by_cases hp:Qd c [118,97,114] r=true
  . rw[Zr hp]at hr;have ha:=hg.a;have hg1:=hg.next (QaP hp)
    have ay:(Qa r).e=0:=he;obtain⟨k1,k2⟩:=Qqs (c:=c) (d:=d) l r hg;have k3:=QA2 (c:=c) (d:=d) l hg;have hveq:=λw (hw:Qbk c (decide (l.length=40)) (Qa r)=w) f hf n hn=>QAU (c:=c) (r:=r) hN l hp (w:=w) hw (f:=f) hf (n:=n) hn;have hd:(decide ((l.length:Int)=40))=decide (l.length=40):=by rw[ZE]; omega
    have h90:=λL=>Qi8 (c:=c) (r:=r) hn hj (by omega) he L (s:=[118,97,114]) rfl;have h88:=λL=>QiM (c:=c) (r:=Qa r) hj (by have:=hg1.a; omega) ay L (decide (l.length=40));have hgw:=(QpG (decide (l.length=40)) hg1).1;refine Qp hm QhQ.eq_1 ?_;simp -implicitDefEqProofs[h0,h2,h3,rp];refine Qb (by simpa[rp]using h90 _) ?_;simp only[Qab,hp,Zv];simp -implicitDefEqProofs[h0,h2,h3,rp];refine Qb (by simpa[rp]using Qnx (c:=c) hj (Qa r) _) ?_;simp -implicitDefEqProofs[h0,h2,h3,rp,rL,Qao,hd];generalize Qbk c (decide (l.length=40)) (Qa r)=w at h88 hgw hveq;have hveq:=hveq w rfl;have bad:∀ rf:Rd,rf.e≠0->(QbU c l r).2=rf->∀ U H',Qu H [j] H'->K (.panic (QZ rf.e rf.p)) U H':=by
     intro rf hf hs U H' hk;rw[Qg7 (by rw[hs]; exact hf),hs]at hr;subst hr;exact hpan hf _ _ hk
    refine Qad (by simpa[rp]using h88 _) (λah => ?_) (λah H' hk => ?_)
    . rw[QaM hj];have hg2:=(QM (c:=c) (d:=d) [61] hgw).1;have hw:=Qef (H:=H) (j:=j) (r:=w.2) (L:=zR::Qao H.length nm pl l.length 0::QdR l::QdP []::(G++[⟨[st (B w.1),V 0,V (Qm c (Qa r))],75,0,true⟩,⟨[st (B [61])],9,0,true⟩])) (q:=G.length+1+4) (n:=1) (T:=9) (ver:=0) (l:=[[61]]) hn hct hj (by simp[wds]) rfl (by simp) (by intro s hs; simp at hs; subst hs; rfl) ah hgw.a;simp -implicitDefEqProofs[h0,h2,h3,rp];refine Qad (by simpa[rp,Qao]using hw) (λhe3 => ?_) (λhe3 H' hk => ?_)
      . rw[QaM hj];simp only[Qas]at he3 ⊢;generalize t2 c [61] w.2=r3 at hg2 he3 hveq ⊢;have ha3:=hg2.a;have h90:=λL=>Qi8 (c:=c) (r:=r3) hn hj (by omega) he3 L (s:=[45]) rfl;have hga:Gd c d (Qab c [45] r3):=by
         unfold Qab; split
         . rename_i h; exact hg2.next (QaP h)
         . exact hg2
        have hea:(Qab c [45] r3).e=0:=by unfold Qab; split<;>exact he3
        have hveq:=λn=>hveq (Qd c [45] r3) rfl n;rw[<-QEi]at hveq;simp -implicitDefEqProofs[h0,h2,h3,rp];refine Qb (by simpa[rp]using h90 _) ?_;generalize Qab c [45] r3=r4 at hga hea hveq ⊢;generalize Qd c [45] r3=f at hveq ⊢;have h89:=λL=>Qpx (c:=c) (r:=r4) hj (by have:=hga.a; omega) hea L false;simp only[QiI]at h89;have hg4:=(Qcp (c:=c) (d:=d) r4 hga).1;simp -implicitDefEqProofs[h0,h2,h3,rp];generalize nmR c r4=q at h89 hg4 hveq;have hveq:=hveq q rfl;refine Qad (by simpa[rp]using h89 _) (λhe4 => ?_) (λhe4 H' hk => ?_)
        . rw[QaM hj];have fin:∀ (N1:Int),N1=(if f=true then IntKind.i64.wrap (-q.1)else q.1)->OkP Tryz.prog 87 [rp j,.own (H.length+(G.length+6)) 0 1 1 0] (H.set j (ae c q.2)++zR::Qao H.length nm pl l.length 0::QdR l::QdP []::(G++[⟨[st (B w.1),V N1,V (Qm c (Qa r))],75,0,true⟩,⟨[st (B [61])],9,0,true⟩,⟨[st (B [59])],9,0,true⟩])) (PdV c (H.set j (ae c q.2)++zR::Qao H.length nm pl l.length 0::QdR l::QdP []::(G++[⟨[st (B w.1),V N1,V (Qm c (Qa r))],75,0,true⟩,⟨[st (B [61])],9,0,true⟩,⟨[st (B [59])],9,0,true⟩])) j (λ_:Unit=>.tup []) ((),QcF c [[59]] q.2)):=by
           intro N1 _;exact Qef (H:=H) (j:=j) (r:=q.2) (q:=G.length+2+4) (n:=1) (T:=9) (ver:=0) (l:=[[59]]) hn hct hj (by simp[wds]) rfl (by simp) (by intro s hs; simp at hs; subst hs; rfl) he4 hg4.a
          have nxt:∀ (N1:Int) (U:Env) (G':ZI),N1=(if f=true then IntKind.i64.wrap (-q.1)else q.1)->(t2 c [59] q.2).e=0->U.get 0=rp j->U.get 2=rp H.length->U.get 3=rp (H.length+1) ->
           LI Tryz.prog N Qf QhQ U (H.set j (ae c (t2 c [59] q.2))++zR::Qao H.length nm pl (l.length+1) 0::⟨rws Qn.c l++[st (B w.1),V N1,V (Qm c (Qa r))],75,l.length+1,true⟩::QdP []::G') K:=by
           intro N1 U G' hN1 he5 h0 h2 h3;have hs5:(QbU c l r).2.e=0:=by rw[hveq]; exact he5
           have k3':=k3 hs5;refine LI.cong ?_ (ih (l++[(QbU c l r).1]) (QbU c l r).2 G' U (by omega) (by simp; omega) hr k1 hs5 h0 h2 h3);rw[hveq,<- hN1];simp[rL,Qao,QdR,Qh3,rws,Qn.c]
          have bad5:(t2 c [59] q.2).e≠0->∀ U H',Qu H [j] H'->K (.panic (QZ (t2 c [59] q.2).e (t2 c [59] q.2).p)) U H':=λh=>bad _ h (by rw[hveq])
          cases f with
          |true =>
           simp -implicitDefEqProofs[h0,h2,h3,rp];refine Qad (by simpa[rp,Qao]using fin (IntKind.i64.wrap (-q.1)) (by simp)) (λhe5 => ?_) (λhe5 H' hk => ?_)
           . rw[QaM hj];simp only[Qas]at he5 ⊢;simp -implicitDefEqProofs[h0,h2,h3,rp,QdR,QaF Qn.c_len];refine⟨by omega,by omega,?_⟩;refine LI.cong ?_ (nxt (IntKind.i64.wrap (-q.1)) _ (G++[⟨[st (B w.1),V (IntKind.i64.wrap (-q.1)),V (Qm c (Qa r))],75,0,true⟩,⟨[st (B [61])],9,0,true⟩,⟨[st (B [59])],9,0,true⟩,⟨[st (B w.1),V (IntKind.i64.wrap (-q.1)),V (Qm c (Qa r))],75,0,true⟩]) (by simp) he5 ?_ ?_ ?_)
             . simp[Qao]
             all_goals simp[rp]
           . simp -implicitDefEqProofs;rw[Qas]at he5;exact bad5 he5 _ _ hk.of_set
          |false =>
           simp -implicitDefEqProofs[h0,h2,h3,rp];refine Qad (by simpa[rp,Qao]using fin q.1 (by simp)) (λhe5 => ?_) (λhe5 H' hk => ?_)
           . rw[QaM hj];simp only[Qas]at he5 ⊢;simp -implicitDefEqProofs[h0,h2,h3,rp,QdR,QaF Qn.c_len];refine⟨by omega,by omega,?_⟩;refine LI.cong ?_ (nxt q.1 _ (G++[⟨[st (B w.1),V q.1,V (Qm c (Qa r))],75,0,true⟩,⟨[st (B [61])],9,0,true⟩,⟨[st (B [59])],9,0,true⟩,⟨[st (B w.1),V q.1,V (Qm c (Qa r))],75,0,true⟩]) (by simp) he5 ?_ ?_ ?_)
             . simp[Qao]
             all_goals simp[rp]
           . simp -implicitDefEqProofs;rw[Qas]at he5;exact bad5 he5 _ _ hk.of_set
        . simp -implicitDefEqProofs;exact bad _ he4 (by rw[hveq]; exact Q5 _ he4) _ _ hk.of_set
      . simp -implicitDefEqProofs;rw[Qas]at he3;have h2':=hveq false (QbM he3 _) (nmR c (t2 c [61] w.2)) (by rw[Zq (by decide)]);exact bad _ he3 (by rw[h2']; simp only[QeL _ he3,Q5 _ he3]) _ _ hk.of_set
    . simp -implicitDefEqProofs;have ht:t2 c [61] w.2=w.2:=Q5 _ ah;have h2':=hveq false (by rw[ht]; exact QbM ah _) (nmR c w.2) (by rw[Zq (by decide),ht]);exact bad _ ah (by rw[h2']; simp only[QeL _ ah,Q5 _ ah]) _ _ hk.of_set
  . rw[Zq hp]at hr;rw[Vm]at hp;exact out l r G U hp hr hg he h0 h2 h3
end
section
variable {H:ZI} {c:Cx} {r:Rd} {j:Nat} {F:Rd->Ex×Rd}
def Qfl (c:Cx) (r:Rd):Bool:=QV c r||Qd c [100,101,97,108] r||Qd c [116,117,114,110] r||Qd c [101,110,100] r
theorem QuM (l:List Qc):Qdd c l r=if l.length=100/\Qfl c r=true then Qg c 12 r else r:=rfl
theorem Qzg (hst:QJ F) (he:r.e=0) (hb:Qfl c r=false):(QaE c F r).2=Qg c 11 r:=by
 unfold Qfl at hb;simp only[Zd]at hb;obtain⟨⟨⟨h1,h2⟩,h3⟩,h4⟩:=hb;have hl:Qbg c r=([],r):=by unfold Qbg; rw[Zq (by simp[h1])]
 have hbad:(Qg c 11 r).e≠0:=by simp[Qg,he]
 have ht:(Qj c [101,110,100] r).2=Qg c 11 r:=by simp[Qj,h4]
 unfold QaE;simp only[hl];rw[Zq (by simp[h2]),Zq (by simp[h3])];simp only[ht,Q5 _ hbad,QlM hst _ hbad]
theorem Qfp {n:Nat} {l:List Qc} (h:r.e≠0):QaS c F n l r=(l,r):=by
 cases n with
 |zero=>rfl
 |succ n=>rw[QaS,Zq (λh2=>h h2.1)]
theorem isB (hn:Q2 c) (he:r.e=0):decide ((tkR c r).tx∈([[100,101,97,108],[116,117,114,110],[101,110,100]]:ZF))=(Qd c [100,101,97,108] r||Qd c [116,117,114,110] r||Qd c [101,110,100] r):=by
 rw[Qc2 hn (s:=[100,101,97,108]) rfl he,Qc2 hn (s:=[116,117,114,110]) rfl he,Qc2 hn (s:=[101,110,100]) rfl he,Bool.eq_iff_iff];simp[or_assoc]
def k39:IC:=match Qee with|.keep _ a=>a|a=>a
def b39:IC:=match IC.nth 1 k39 with|.blk _ a=>a|a=>a
set_option maxHeartbeats 4000000 in
theorem QyU (hn:Q2 c) (h20:c.ts.length<=20000) (hj:j<H.length) {d:Nat} (hF:PdC c 32 [] F d) (hkF:Kp c d F) (hst:QJ F) (hnb:Nb c F) {nm:ZG} {pl:Int} {vs:List Qn} {N:Nat} {K:ZH} {res:List Qc×Rd}
 (ai:res.2.e=0->res.1≠[]->c.ts.length<=res.2.a->Gd c d res.2->∀ U G,U.get 2=rp H.length->U.get 3=rp (H.length+1)->K (.exit 2) U (H.set j (ae c res.2)++rL H.length nm pl vs res.1 G))
 (hpan:res.2.e≠0->∀ U H',Qu H [j] H'->K (.panic (QZ res.2.e res.2.p)) U H') :
 ∀ (n:Nat) (l:List Qc) (r:Rd) (G:ZI) (U:Env),c.ts.length<r.a+n->l.length<=r.a->QaS c F n l r=res->Gd c d r->r.e=0->U.get 0=rp j->U.get 2=rp H.length->U.get 3=rp (H.length+1) ->
  LI Tryz.prog N Qf Qee U (H.set j (ae c r)++rL H.length nm pl vs l G) K:=by
 have hct:c.ts.length<4611686018427387904:=by omega
 intro n
 induction n with
 |zero=>intro l r G U hna hla hr hg; have:=hg.a; omega
 |succ n ih =>
  intro l r G U hna hla hr hg he h0 h2 h3;have ha:=hg.a;rw[QaS]at hr;have hcode:Qee=.keep [0,2,3] (.seq (IC.nth 0 k39) (IC.nth 1 k39)):=rfl;refine Qp hm hcode ?_;generalize hK:(λ(x:XE) (U:Env) (H:ZI)=>match x with|.normal=>LI Tryz.prog N Qf Qee U H K|x=>K x U H)=K'
  have hKn:∀ U H,K' .normal U H=LI Tryz.prog N Qf Qee U H K:=λU H=>by rw[<-hK]
  have hKp:∀ x U H,K' (.panic x) U H=K (.panic x) U H:=λx U H=>by rw[<-hK]
  have hKe:∀ n U H,K' (.exit n) U H=K (.exit n) U H:=λn U H=>by rw[<-hK]
  clear hK;have e3:∀ L,Qo (H.set j (ae c r)++L) j 0=pdC c r.a r.v:=λL=>ocL (H:=H) hj _ 127 L;have pd1:∀ h,(pdC c r.a r.v)[1]'(h)=V r.a:=λ_=>rfl;have pd0:(pdC c r.a r.v).head?.getD .any=Qbl c.ts:=rfl;by_cases hcond:l=[]\/r.a<c.ts.length
  . rw[Zr ⟨he,hcond⟩]at hr;have body:∀ (U:Env),U.get 0=rp j->U.get 2=rp H.length->U.get 3=rp (H.length+1)->X Tryz.prog N Qf (IC.nth 1 k39) U (H.set j (ae c r)++rL H.length nm pl vs l G) K':=by
     intro U h0 h2 h3;have h92:=λL=>QhS (Qb4 hj (ae c r) L) he;have h79:=λL e=>Qdk (Qb4 hj (ae c r) L) e;have h94:=λL=>ok94 hn h20 hF hkF hst hnb (Qb4 hj (ae c r) L) hg he;have hfe:=QuM (c:=c) (r:=r) l;have hsn:=Qzg (c:=c) (r:=r) hst he;obtain⟨k1,k2⟩:=Qr8 (c:=c) hkF r hg;have k3:=Qrq (c:=c) hkF hg;have bad:∀ rf:Rd,rf.e≠0->(QaE c F (Qdd c l r)).2=rf->∀ U H',Qu H [j] H'->K (.panic (QZ rf.e rf.p)) U H':=by
      intro rf hf hs U H' hk;rw[hs,Qfp hf]at hr;subst hr;exact hpan hf _ _ hk
     have f11:(Qg c 11 r).e=11/\(Qg c 11 r).p=Qm c r:=by simp[Qg,he]
     have f12:(Qg c 12 r).e=12/\(Qg c 12 r).p=Qm c r:=by simp[Qg,he]
     have hcode2:IC.nth 1 k39=.blk 3 (.seq (IC.nth 0 b39) (IC.tl 1 b39)):=rfl;rw[hcode2,Qrp];generalize hB:(λ(x:XE) (U:Env) (H:ZI)=>match x with|.exit id=>if id=3 then K' .normal U H else K' (.exit id) U H|x=>K' x U H)=K''
     have hKn':∀ U H,K'' .normal U H=K' .normal U H:=λU H=>by rw[<-hB]
     have hKp':∀ x U H,K'' (.panic x) U H=K' (.panic x) U H:=λx U H=>by rw[<-hB]
     clear hB;have rest:∀ (U:Env) (G:ZI),Qfl c r=true->U.get 0=rp j->U.get 2=rp H.length->U.get 3=rp (H.length+1) ->
      X Tryz.prog N Qf (IC.tl 1 b39) U (H.set j (ae c r)++rL H.length nm pl vs l G) K'':=by
      intro U G hb h0 h2 h3;simp -implicitDefEqProofs[IC.tl,b39,k39,Qee,IC.nth,h0,h3,rp,rL,Qao];by_cases h100:l.length=100
      . have h100':(l.length:Int)=100:=by omega
        simp -implicitDefEqProofs[h100'];refine Qb (by simpa[rp,Qao]using h79 _ 12) ?_;simp -implicitDefEqProofs;rw[hKp',hKp];have:=bad (Qg c 12 r) (by rw[f12.1]; decide) (by rw[hfe,Zr ⟨h100,hb⟩]; exact QnP hst _ (by rw[f12.1]; decide));rw[f12.1,f12.2]at this;exact this _ _ (Qu.of_set (Qu.refl _ _))
      . have h100':¬ (l.length:Int)=100:=by omega
        rw[Zq (λh=>h100 h.1)]at hfe;rw[hfe]at bad hr;simp -implicitDefEqProofs[h100'];generalize QaE c F r=x at h94 k1 k2 k3 bad hr;refine Qad (by simpa[rp]using h94 _) (λay => ?_) (λay H' hk => ?_)
        . rw[QaM hj];simp -implicitDefEqProofs[h3,rp,Qf1,QdP,QaF Qc.c_len];refine⟨by omega,by omega,?_⟩;rw[hKn',hKn];have k3':=k3 ay;refine LI.cong ?_ (ih (l++[x.1]) x.2 (G++[⟨x.1.c,78,0,true⟩]) _ (by omega) (by simp; omega) hr k1 ay ?_ ?_ ?_)
          . simp[rL,Qao,QdP,Qh3,rws]
          all_goals simp[h0,h2,h3,rp]
        . simp -implicitDefEqProofs;rw[hKp',hKp];exact bad _ ay rfl _ _ hk.of_set
     generalize IC.tl 1 b39=t1 at rest ⊢;simp -implicitDefEqProofs[IC.nth,b39,k39,Qee,h0,rp,rL,Qao];refine Qb (by simpa[rp,Qao]using h92 _) ?_;by_cases hf:QV c r=true
     . simp -implicitDefEqProofs[h0,rp,hf];refine Qcf _ _ _ _ ?_;simp -implicitDefEqProofs[hf];refine Xc rfl (rest _ G (by simp[Qfl,hf]) ?_ ?_ ?_);all_goals simp[h0,h2,h3,rp]
     . rw[Vm]at hf;have h93:=Qf9 (Qb4 hj (ae c r) (zR::Qao H.length nm pl vs.length l.length::QdR vs::QdP l::(G++[⟨[st (B [100,101,97,108]),st (B [116,117,114,110]),st (B [101,110,100])],9,0,true⟩]))) (x:=.own (H.length+(G.length+4)) 0 3 1 0) (l:=[[100,101,97,108],[116,117,114,110],[101,110,100]]) (by
        have:=IsS.own1 (H:=H.set j (ae c r)) (L:=zR::Qao H.length nm pl vs.length l.length::QdR vs::QdP l::(G++[⟨[st (B [100,101,97,108]),st (B [116,117,114,110]),st (B [101,110,100])],9,0,true⟩])) (k:=G.length+4) (T:=9) (ver:=0) (n:=3) (l:=[[100,101,97,108],[116,117,114,110],[101,110,100]]) (by simp[wds]) rfl;simpa using this) (by simp)
       rw[isB hn he]at h93;have hbe:Qfl c r=(Qd c [100,101,97,108] r||Qd c [116,117,114,110] r||Qd c [101,110,100] r):=by unfold Qfl; rw[hf]; simp
       rw[<-hbe]at h93;simp -implicitDefEqProofs[h0,rp,hf];refine QL (r:=bl (Qfl c r)) (λ_=>by simpa[rp,Qao,SV.strip]using h93) ?_
       cases hb:Qfl c r with
       |true =>
        simp -implicitDefEqProofs[hf];refine Xc ?_ (rest _ (G++[⟨[st (B [100,101,97,108]),st (B [116,117,114,110]),st (B [101,110,100])],9,0,true⟩]) hb ?_ ?_ ?_)
        . simp[rL,Qao]
        all_goals simp[h0,h2,h3,rp]
       |false =>
        simp -implicitDefEqProofs[h0,rp,hf];refine Qb (by simpa[rp,Qao]using h79 _ 11) ?_;simp -implicitDefEqProofs;rw[hKp',hKp];have:=bad (Qg c 11 r) (by rw[f11.1]; decide) (by rw[hfe,Zq (by simp[hb])]; exact hsn hb);rw[f11.1,f11.2]at this;exact this _ _ (Qu.of_set (Qu.refl _ _))
    generalize IC.nth 1 k39=B1 at body ⊢;by_cases hl0:l=[]
    . subst hl0;simp -implicitDefEqProofs[IC.nth,k39,Qee,h0,h2,h3,rp,rL,Qao,e3,pd1,pd0,QhL];exact body _ (by simp[rp]) (by simp[rp]) (by simp[rp])
    . have hlt:=hcond.resolve_left hl0;have ax:(r.a:Int)<c.ts.length:=by omega
      simp -implicitDefEqProofs[IC.nth,k39,Qee,h0,h2,h3,rp,rL,Qao,e3,pd1,pd0,QhL,hl0,ax,Qbl];exact body _ (by simp[rp]) (by simp[rp]) (by simp[rp])
  . rw[Zq (λh=>hcond h.2)]at hr;have hl0:l≠[]:=λh=>hcond (.inl h);have hge:¬ r.a<c.ts.length:=λh=>hcond (.inr h);have hge':¬ (r.a:Int)<c.ts.length:=by omega
    subst hr;generalize IC.nth 1 k39=B1;simp -implicitDefEqProofs[IC.nth,k39,Qee,h0,h2,h3,rp,rL,Qao,e3,pd1,pd0,QhL,hl0,hge',Qbl];rw[hKe];refine ai he hl0 (Nat.not_lt.1 hge) hg _ G ?_ ?_<;>simp[rp]
end
section
variable {H:ZI} {c:Cx} {r:Rd} {j:Nat} {F:Rd->Ex×Rd} {nm:ZG} {pl:Int}
theorem Qz8 {o:AO} (Z:closed (H.set j o)) {vs:List Qn} {ss:List Qc} {z:AO} {G:ZI} :
 Cv H.length (.agg [st (B nm),V pl,.own (H.length+2) 0 vs.length 3 vs.length,.own (H.length+3) 0 ss.length 12 ss.length]) (H.set j o++(z::Qao H.length nm pl vs.length ss.length::QdR vs::QdP ss::G)) (QbJ ⟨nm,pl,vs,ss⟩) (H.set j o):=by
 refine Qq (n0:=H.length) 4 Z (by simp) ?_;have e1:(rws Qn.c vs).take (vs.length*3)=rws Qn.c vs:=VD (by rw[QaF Qn.c_len]; exact Vb _);have e2:(rws Qc.c ss).take (ss.length*12)=rws Qc.c ss:=VD (by rw[QaF Qc.c_len]; exact Vb _);have m1:∀ L d,(rws Qn.c vs).map (SV.fz H.length [] L (d+1))=rws Qn.c vs:=λL d=>QcY _ _ _ _ (Qfj (Qn.und _) vs);have m2:∀ L d,(rws Qc.c ss).map (SV.fz H.length [] L (d+1))=rws Qc.c ss:=λL d=>QcY _ _ _ _ (Qfj (Qc.und _) ss);simp[QbJ,Qy.c,QdR,QdP,QaF Qn.c_len,QaF Qc.c_len,e1,e2,m1,m2]
theorem QDl (hj:j<H.length) (Z:closed H) (he:r.e=0) {vs:List Qn} {ss:List Qc} {G:ZI} {U:Env} {res:Qy×Rd} (ag:(⟨nm,pl,vs,ss⟩,r)=res) (h2:U.get 2=rp H.length) (h3:U.get 3=rp (H.length+1)) :
 X Tryz.prog Tryz.f39.ntmps Qf (IC.tl 9 i39) U (H.set j (ae c r)++rL H.length nm pl vs ss G) (FinP H.length r39 (PdV c H j QbJ res)):=by
 subst ag;simp[IC.tl,i39,r39,h2,h3,rp,rL,Qao,zR];refine⟨_,_,PdV.got (x:=⟨nm,pl,vs,ss⟩) he rfl rfl rfl,?_⟩;have hc1:closed (H.set j (ae c r)):=QbQ (c:=c) (a:=r.a) (v:=r.v) Z;have:=Qz8 (nm:=nm) (pl:=pl) (vs:=vs) (ss:=ss) (z:=⟨[st (B nm),V pl,.own (H.length+2) 0 vs.length 3 vs.length,.own (H.length+3) 0 ss.length 12 ss.length],36,0,true⟩) (G:=G) hc1;simpa[Qao]using this
theorem QyO (hn:Q2 c) (hN:QgI c) (h20:c.ts.length<=20000) (hj:j<H.length) (Z:closed H) {d:Nat} (hF:PdC c 32 [] F d) (hkF:Kp c d F) (hst:QJ F) (hnb:Nb c F) (hg:Gd c d r) (he:r.e=0) {G:ZI} {U:Env} {res:Qy×Rd}
 (ag:(λv:List Qn×Rd=>(λs:List Qc×Rd=>((⟨nm,pl,v.1,s.1⟩,s.2):Qy×Rd)) (QaS c F (c.ts.length+1) [] v.2)) (QbX c c.ts.length [] r)=res)
 (h0:U.get 0=rp j) (h2:U.get 2=rp H.length) (h3:U.get 3=rp (H.length+1)) :
 X Tryz.prog Tryz.f39.ntmps Qf (IC.tl 7 i39) U (H.set j (ae c r)++rL H.length nm pl [] [] G) (FinP H.length r39 (PdV c H j QbJ res)):=by
 have tail:∀ (vs:List Qn) (ss:List Qc) (r:Rd) (G:ZI) (U:Env),r.e=0->(⟨nm,pl,vs,ss⟩,r)=res->U.get 2=rp H.length->U.get 3=rp (H.length+1)->_:=λvs ss r G U he hr h2 h3=>QDl (c:=c) (r:=r) (G:=G) hj Z he hr h2 h3;rw[show IC.tl 7 i39=.seq (IC.nth 7 i39) (IC.tl 8 i39)from rfl,show IC.tl 8 i39=.seq (IC.nth 8 i39) (IC.tl 9 i39)from rfl];generalize IC.tl 9 i39=t9 at tail ⊢;have bad:∀ rf:Rd,rf.e≠0->res.2=rf->∀ H',Qu H [j] H'->PdV c H j QbJ res (.pan (QZ rf.e rf.p)) H':=by
  intro rf hf hs H' hk;rw[<-hs]at hf ⊢;exact PdV.pan hf hk
 dsimp only at ag;generalize hv:QbX c c.ts.length [] r=v at ag;simp[IC.nth,i39];refine QCz hn hN h20 hj (res:=v) (λhv0 hgv U G h0 h2 h3 => ?_) (λhv0 U H' hk => ?_) c.ts.length [] r G U (by omega) (by simp) hv hg he h0 h2 h3
 . simp;generalize hs:QaS c F (c.ts.length+1) [] v.2=s at ag;refine QyU hn h20 hj hF hkF hst hnb (res:=s) (λhs0 _ _ hgs U G h2 h3 => ?_) (λhs0 U H' hk => ?_) (c.ts.length+1) [] v.2 G U (by omega) (by simp) hs hgv hv0 h0 h2 h3
   . simp;exact tail v.1 s.1 s.2 G U hs0 ag h2 h3
   . simp;exact⟨_,_,bad s.2 hs0 (by rw[<-ag]) _ hk,Qi⟩
 . simp;refine⟨_,_,bad v.2 hv0 ?_ _ hk,Qi⟩;rw[<-ag,Qfp hv0]
def QdD (c:Cx) (F:Rd->Ex×Rd) (r:Rd):Qy×Rd :=
 let w:=QX c (t2 c [103,97,109,101] r)
 let n:=nmR c (t2 c [112,108,97,121,101,114,115] (t2 c [59] w.2))
 let v:=QbX c c.ts.length [] (t2 c [59] n.2)
 let s:=QaS c F (c.ts.length+1) [] v.2
 (⟨w.1,n.1,v.1,s.1⟩,s.2)
set_option maxHeartbeats 2000000 in
theorem Qx0 (hn:Q2 c) (hN:QgI c) (h20:c.ts.length<=20000) (hj:j<H.length) (Z:closed H) {d:Nat} (hF:PdC c 32 [] F d) (hkF:Kp c d F) (hst:QJ F) (hnb:Nb c F) (hg:Gd c d r) (he:r.e=0) {U:Env} {res:Qy×Rd}
 (ag:QdD c F r=res) (h0:U.get 0=rp j) (h2:U.get 2=rp H.length) (h3:U.get 3=rp (H.length+1)) :
 X Tryz.prog Tryz.f39.ntmps Qf (IC.tl 2 i39) U (H.set j (ae c r)++rL H.length [] 0 [] [] []) (FinP H.length r39 (PdV c H j QbJ res)):=by
 have hct:c.ts.length<4611686018427387904:=by omega
 have tail:∀ (nm:ZG) (pl:Int) (r:Rd) (G:ZI) (U:Env),Gd c d r->r.e=0->_->U.get 0=rp j->U.get 2=rp H.length->U.get 3=rp (H.length+1)->_:=λnm pl r G U hg he hr h0 h2 h3=>QyO (nm:=nm) (pl:=pl) (r:=r) (G:=G) (res:=res) hn hN h20 hj Z hF hkF hst hnb hg he hr h0 h2 h3;have bad:∀ rf:Rd,rf.e≠0->res.2=rf->∀ H',Qu H [j] H'->PdV c H j QbJ res (.pan (QZ rf.e rf.p)) H':=by
  intro rf hf hs H' hk;rw[<-hs]at hf ⊢;exact PdV.pan hf hk
 rw[show IC.tl 2 i39=.seq (IC.nth 2 i39) (IC.tl 3 i39)from rfl,show IC.tl 3 i39=.seq (IC.nth 3 i39) (IC.tl 4 i39)from rfl,show IC.tl 4 i39=.seq (IC.nth 4 i39) (IC.tl 5 i39)from rfl,show IC.tl 5 i39=.seq (IC.nth 5 i39) (IC.tl 6 i39)from rfl,show IC.tl 6 i39=.seq (IC.nth 6 i39) (IC.tl 7 i39)from rfl];generalize IC.tl 7 i39=t7 at tail ⊢;unfold QdD at ag;dsimp only at ag;have hw:=Qef (H:=H) (j:=j) (r:=r) (L:=rL H.length [] 0 [] [] [⟨[st (B [103,97,109,101])],9,0,true⟩]) (q:=4) (n:=1) (T:=9) (ver:=0) (l:=[[103,97,109,101]]) hn hct hj (by simp[wds,rL]) rfl (by simp) (by intro s hs; simp at hs; subst hs; rfl) he hg.a;have hg1:=(QM (c:=c) (d:=d) [103,97,109,101] hg).1;simp[IC.nth,i39,h0,rp,rL,Qao];refine Qad (by simpa[rp,rL,Qao]using hw) (λay => ?_) (λay H' hk => ?_)
 . rw[QaM hj];simp only[Qas]at ay ⊢;generalize t2 c [103,97,109,101] r=r1 at hg1 ay ag ⊢;have h88:=λL=>QiM (c:=c) (r:=r1) hj (by have:=hg1.a; omega) ay L false;simp only[QiT]at h88;have hg2:=(QcC (c:=c) (d:=d) r1 hg1).1;simp;generalize QX c r1=w at hg2 h88 ag;refine Qad (by simpa[rp]using h88 _) (λah => ?_) (λah H' hk => ?_)
   . rw[QaM hj];simp[h0,h3,rp];have hw:=Qef (H:=H) (j:=j) (r:=w.2) (L:=rL H.length w.1 0 [] [] [⟨[st (B [103,97,109,101])],9,0,true⟩,⟨[st (B [59]),st (B [112,108,97,121,101,114,115])],9,0,true⟩]) (q:=5) (n:=2) (T:=9) (ver:=0) (l:=[[59],[112,108,97,121,101,114,115]]) hn hct hj (by simp[wds,rL]) rfl (by simp) (by intro s hs; simp at hs; rcases hs with rfl|rfl<;>rfl) ah hg2.a
     have hg3:=(QM (c:=c) (d:=d) [112,108,97,121,101,114,115] (QM (c:=c) (d:=d) [59] hg2).1).1;refine Qad (by simpa[rp,rL,Qao]using hw) (λhe3 => ?_) (λhe3 H' hk => ?_)
     . rw[QaM hj];simp only[Qix]at he3 ⊢;generalize t2 c [112,108,97,121,101,114,115] (t2 c [59] w.2)=r3 at hg3 he3 ag ⊢;have h89:=λL=>Qpx (c:=c) (r:=r3) hj (by have:=hg3.a; omega) he3 L false;simp only[QiI]at h89;have hg4:=(Qcp (c:=c) (d:=d) r3 hg3).1;simp[h0,h3,rp];generalize nmR c r3=q at hg4 h89 ag;refine Qad (by simpa[rp]using h89 _) (λhe4 => ?_) (λhe4 H' hk => ?_)
       . rw[QaM hj];simp[h0,h3,rp];have hw:=Qef (H:=H) (j:=j) (r:=q.2) (L:=rL H.length w.1 q.1 [] [] [⟨[st (B [103,97,109,101])],9,0,true⟩,⟨[st (B [59]),st (B [112,108,97,121,101,114,115])],9,0,true⟩,⟨[st (B [59])],9,0,true⟩]) (q:=6) (n:=1) (T:=9) (ver:=0) (l:=[[59]]) hn hct hj (by simp[wds,rL]) rfl (by simp) (by intro s hs; simp at hs; subst hs; rfl) he4 hg4.a;have hg5:=(QM (c:=c) (d:=d) [59] hg4).1;refine Qad (by simpa[rp,rL,Qao]using hw) (λhe5 => ?_) (λhe5 H' hk => ?_)
         . rw[QaM hj];simp only[Qas]at he5 ⊢;simp[h0,h3,rp];refine Xc ?_ (tail w.1 q.1 (t2 c [59] q.2) [⟨[st (B [103,97,109,101])],9,0,true⟩,⟨[st (B [59]),st (B [112,108,97,121,101,114,115])],9,0,true⟩,⟨[st (B [59])],9,0,true⟩] _ hg5 he5 ag ?_ ?_ ?_)
           . simp[rL,Qao]
           all_goals simp[h0,h2,h3,rp]
         . simp;rw[Qas]at he5;refine⟨_,_,bad _ he5 ?_ _ hk.of_set,Qi⟩;rw[<-ag]; simp only[Qg7 he5,Qfp he5]
       . simp;refine⟨_,_,bad _ he4 ?_ _ hk.of_set,Qi⟩;rw[<-ag]; simp only[Q5 _ he4,Qg7 he4,Qfp he4]
     . simp;rw[Qix]at he3;refine⟨_,_,bad _ he3 ?_ _ hk.of_set,Qi⟩;rw[<-ag]; simp only[QeL _ he3,Q5 _ he3,Qg7 he3,Qfp he3]
   . simp;refine⟨_,_,bad _ ah ?_ _ hk.of_set,Qi⟩;rw[<-ag]; simp only[Q5 _ ah,QeL _ ah,Qg7 ah,Qfp ah]
 . simp;rw[Qas]at ay;refine⟨_,_,bad _ ay ?_ _ hk.of_set,Qi⟩;rw[<-ag]; simp only[QlJ _ ay,Q5 _ ay,QeL _ ay,Qg7 ay,Qfp ay]
theorem ok39 (hn:Q2 c) (hN:QgI c) (h20:c.ts.length<=20000) {d:Nat} (hF:PdC c 32 [] F d) (hkF:Kp c d F) (hst:QJ F) (hnb:Nb c F) (ho:H[j]? = some (ae c r)) (hg:Gd c d r) (he:r.e=0) :
 OkP Tryz.prog 39 [rp j] H (PdV c H j QbJ (QdD c F r)):=by
 have hj:=Qk ho;refine QpF hm Tryz.func39 c39 (by simp[rp]) λZ => ?_;have tail:∀ U:Env,U.get 0=rp j->U.get 2=rp H.length->U.get 3=rp (H.length+1)->_:=λU h0 h2 h3=>Qx0 (r:=r) (res:=QdD c F r) hn hN h20 hj Z hF hkF hst hnb hg he rfl h0 h2 h3;rw[show i39=.seq (IC.nth 0 i39) (.seq (IC.nth 1 i39) (IC.tl 2 i39))from rfl];generalize IC.tl 2 i39=t2' at tail ⊢;refine WI.seq (Qb1 hm) ?_;simp[IC.nth,i39];refine WI.seq (Qb1 hm) ?_;simp;refine WI.tell (Qat.own0 (j:=H.length+1) (p:=2) (o:=⟨[st (B []),V 0,nl,nl],36,0,true⟩) (by simp) rfl rfl 75 3) ?_;refine WI.tell (Qat.own0 (j:=H.length+1) (p:=3) (o:=⟨[st (B []),V 0,.own (H.length+2) 0 0 3 0,nl],36,0,true⟩) (by simp) rfl rfl 78 12) ?_;refine WI.cong (H':=H.set j (ae c r)++rL H.length [] 0 [] [] []) ?_ ?_
 . rw[QcZ ho];simp[rL,Qao,zR,QdR,QdP,rws]
 . exact WI.of_X (Qb1 hm) (tail _ (by simp[rp]) (by simp[rp]) (by simp[rp]))
end
end Go.Proofs.YtmkdpmfhlfhjkaaGreatDoor
