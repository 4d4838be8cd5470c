/-
  Steps of the proof: contracts of functions and plain facts that the statement rests on.
-/
import Derived.Test.YtogjmpkehjfecaaPart3
import Derived.Test.YtogjmpkehjfecaaPart1
import Derived.Test.YtogjmpkehjfecaaPart2
set_option linter.all false
namespace Go.Proofs.Ytogjmpkehjfecaa.Rc
open Go.Ab
theorem build_ok {c:Mc} (hc:c.Good):∀ (f level:Nat),level+f=c.lv.length->BuildOk c level
 | 0,level,h=>build_step hc (by omega) fun h'=>absurd h' (by omega)
 | f+1,level,h=>build_step hc (by omega) fun _=>build_ok hc f (level+1) (by omega)
theorem nds_rws:∀ l:List Nd,nds l=rws Nd.cells l
 | []=>rfl
 | x::r=>by simp only[nds,rws,nds_rws r]
theorem infs_rws:∀ l:List (Int×Int),infs l=rws icN l
 | []=>rfl
 | x::r=>by simp only[infs,rws,infs_rws r]; rfl
theorem Wlk.pos {b h:Nat} {sub:List Nd} (hw:Wlk b h sub):1≤sub.length:=by
 rcases sub with _ | ⟨x,r⟩
 · obtain⟨m,h1,_⟩:=hw (List.replicate b phN) [] 0 0 0 (by simp) (by simp)
   simp[walkR]at h1
 · simp
structure Made (pl0 most:Int) (g:Gm):Prop where
 pl:g.pl=pl0
 n1:1≤g.ns.length
 ml:(g.ns.length:Int)≤most
 il:g.is.length≤g.ns.length
 wlk:Wlk 0 10 g.ns
 good:∀ x∈g.ns,x.good pl0 g.is
 rg:rg g.ns 0=some g.is.length
 isr:∀ q∈g.is,0≤q.1∧q.1<pl0∧1≤q.2∧q.2≤3
 rcl:∃ lvs V gs,Rcl g lvs V gs
theorem Made.form {pl most:Int} {g:Gm} (h:Made pl most g) (p1:1≤pl) (p4:pl≤4) (hm:most≤200):g.formE=0:=by
 have:=h.ml; have:=h.il; have:=h.pl; have:=h.n1
 exact made_ok (by omega) (by omega) h.n1 (by omega) (by omega) h.wlk (by omega) (by rw[h.pl]; exact h.good) h.rg
theorem rcl_of {c:Mc} {s:Ms} {pl:Int} {np:Nat} (hn:pl=np) (h:GhP c 0 0 (List.replicate np []) s.ns s.vs):∃ lvs V gs,Rcl ⟨pl,s.ns,s.is⟩ lvs V gs:=by
 obtain⟨u,gs,h1,h2,h3,h4⟩:=h
 refine⟨lvF c,fun i=>s.vs[i]?.map fun v=>(v.pl,v.lv,v.sn),gs,h1,?_,fun j x y hx hy k d hd => ?_,fun j x y hx hy => ?_,fun i j w hi hj => ?_⟩
 · rw[h2]; simp[hn]
 · obtain⟨m,z,e1,e2,e3⟩:=h3 j x y hx hy k d hd
   exact⟨m,z,by rw[e1]; simp,e2,e3⟩
 · obtain⟨f1,f2⟩:=h4 j x y hx hy
   refine⟨fun hk => ?_,f2⟩
   obtain⟨a1,a2,a3,t,v,b1,b2,b3,b4,b5⟩:=f1 hk
   exact⟨a1,a2,a3,t,b1,by simp[b2,b3,b4,b5]⟩
 · cases ha:s.vs[i]? with
   | none=>simp[ha]at hi
   | some p =>
    cases hb:s.vs[j]? with
    | none=>simp[hb]at hj
    | some q =>
     simp only[ha,hb,Option.map_some,Option.some.injEq]at hi hj
     have e:=hi.trans hj.symm
     simp only[Prod.mk.injEq]at e
     exact u i j p q ha hb e.1 e.2.1 e.2.2
def gv36 (n:Nat) (pl:Int) (s:Ms):SV:=.agg [i64 pl,.own (n+5) 0 s.ns.length 6 s.vn,.own (n+6) 0 s.is.length 2 s.vi]
section
variable {H:List AO}
set_option maxRecDepth 10000 in
theorem loop36 {l:List Int} {pl most:Int} {zero:Bool} {m0:Nat} {A:List AO} {N:Nat} {K:XE->Env->List AO->Prop} (hl:l.length<4611686018427387904) (p1:1≤pl) (p2:pl≤1000) (hm0:m0≤50)
 (hexit:∀ env B lv a,lv.length≤m0->(∀ q∈lv,-1≤q.1∧q.1<pl∧2≤q.2.1∧q.2.1≤3)->0≤a->env.get 1=i64 pl->env.get 8=.ptr (.own (A.length-1) 0 0 0 0) 0->env.get 9=.ptr (.own (A.length+1) 0 0 0 0) 0 →
  K (.exit 0) env ((⟨l,lv,lv.length,most,zero,pl⟩:Mc).hp A B ⟨a,1,0,0,0,[],[],[]⟩)) :
 ∀ (n:Nat) (env:Env) (B:List AO) (lv:List (Int×Int×Int)) (a:Int),lv.length+n=m0->(∀ q∈lv,-1≤q.1∧q.1<pl∧2≤q.2.1∧q.2.1≤3)->0≤a->env.get 1=i64 pl->env.get 8=.ptr (.own (A.length-1) 0 0 0 0) 0->env.get 9=.ptr (.own (A.length+1) 0 0 0 0) 0->env.get 10=i64 n →
  LI Try.prog N drawB l11_0 env ((⟨l,lv,lv.length,most,zero,pl⟩:Mc).hp A B ⟨a,1,0,0,0,[],[],[]⟩) K:=by
 intro n
 induction n with
 | zero =>
  intro env B lv a hn hlv ha h1 h8 h9 h10
  refine li_go hm l11_0.eq_1 ?_
  simp -implicitDefEqProofs[h1,h8,h9,h10]
  refine hexit _ B lv a (by omega) hlv ha ?_ ?_ ?_<;>simp[h1,h8,h9]
 | succ n ih =>
  intro env B lv a hn hlv ha h1 h8 h9 h10
  refine li_go hm l11_0.eq_1 ?_
  have w0:IntKind.i64.wrap (pl+1)=pl+1:=wrap_id (by omega) (by omega)
  have w1:IntKind.i64.wrap (n:Int)=n:=wrap_nat (by omega)
  have z0:=rws_len lcN_len lv
  simp -implicitDefEqProofs[h1,h8,h9,h10,Mc.hp,Mc.M,w0,show(0:Int)<n+1 by omega]
  refine call_goP (ok34m (A:=A) (B:=B) (c:=⟨l,lv,lv.length,most,zero,pl⟩) (n:=pl+1) (s:=⟨a,1,0,0,0,[],[],[]⟩) hl ha (by omega)) ?_
  rintro o G' ⟨v,a1,rfl,ha1,hv1,hv2,rfl⟩
  have w2:IntKind.i64.wrap (v-1)=v-1:=wrap_id (by omega) (by omega)
  simp -implicitDefEqProofs[h1,h8,h9,h10,Mc.hp,Mc.M,w0,w2]
  refine call_goP (ok34m (A:=A) (B:=B) (c:=⟨l,lv,lv.length,most,zero,pl⟩) (n:=2) (s:=⟨a1,1,0,0,0,[],[],[]⟩) hl ha1 (by omega)) ?_
  rintro o G' ⟨u,a2,rfl,ha2,hu1,hu2,rfl⟩
  have w3:IntKind.i64.wrap (2+u)=2+u:=wrap_id (by omega) (by omega)
  simp -implicitDefEqProofs[h1,h8,h9,h10,Mc.hp,Mc.M,w0,w2,w3]
  refine call_goP (ok34m (A:=A) (B:=B) (c:=⟨l,lv,lv.length,most,zero,pl⟩) (n:=16) (s:=⟨a2,1,0,0,0,[],[],[]⟩) hl ha2 (by omega)) ?_
  rintro o G' ⟨t,a3,rfl,ha3,ht1,ht2,rfl⟩
  simp -implicitDefEqProofs[h1,h8,h9,h10,Mc.hp,Mc.M,Mc.L,w0,w1,w2,w3,z0]
  refine⟨by omega,by omega,?_⟩
  refine LI.cong (H':=(⟨l,lv++[(v-1,2+u,t)],(lv++[(v-1,2+u,t)]).length,most,zero,pl⟩:Mc).hp A (B++[⟨[i64 (v-1),i64 (2+u),i64 t],85,0,true⟩]) ⟨a3,1,0,0,0,[],[],[]⟩) (by simp[Mc.hp,Mc.D,Mc.L,Mc.M,Mc.V,Mc.N,Mc.I,rws_app,rws,lcN]) ?_
  refine ih _ _ _ _ (by simp; omega) ?_ ha3 ?_ ?_ ?_ ?_
  · intro q hq
    rcases List.mem_append.1 hq with h | h
    · exact hlv q h
    · simp at h; subst h; simp only; omega
  all_goals simp[h1,h8,h9,w1]
set_option maxRecDepth 10000 in
theorem gen36 {l:List Int} {pl most:Int} {zero:Bool} {Pt:Out->List AO->Prop} (hl:l.length<4611686018427387904) (p1:1≤pl) (p2:pl≤1000) (m1:1≤most) (m2:most≤2000)
 (hfin:closed H->∀ (c:Mc) (s:Ms) (B:List AO) (o:AO),Made pl most ⟨pl,s.ns,s.is⟩->FinQ H.length Pt (gv36 H.length pl s) (c.hp (H++[o]) B s)) :
 OkP Try.prog 11 [.slc (ints l) l.length,i64 pl,i64 most,bl zero] H Pt:=by
 refine okP_fn hm Try.func11 c11 (by simp) fun hcl => ?_
 simp -implicitDefEqProofs[i11,r11]
 have h59:=ok34 (G:=H++[⟨[i64 0,.val (.slice none 0 0),.val (.slice none 0 0)],25,0,true⟩,⟨[.slc (ints l) l.length,i64 0],78,0,true⟩,⟨[.ptr (.own (H.length+1) 0 0 0 0) 0,.val (.slice none 0 0),.val (.slice none 0 0),i64 most,i64 1,bl zero,bl false,i64 pl,.val (.slice none 0 0),.val (.slice none 0 0)],82,0,true⟩]) (l:=l) (at':=0) (n:=5) (jd:=H.length+1) (by simp[get_app]) hl (by omega) (by omega)
 refine⟨rfl,?_⟩
 refine call_goP h59 ?_
 rintro o G' ⟨v,a,rfl,ha,hv1,hv2,rfl⟩
 have w1:IntKind.i64.wrap (1+v)=1+v:=wrap_id (by omega) (by omega)
 simp -implicitDefEqProofs[w1]
 obtain⟨m0,hm0⟩:∃ m:Nat,1+v=m:=⟨(1+v).toNat,by omega⟩
 rw[hm0]
 have z1:H.length+1-1=H.length:=by omega
 refine LI.tell (Tell.own0 (j:=H.length+2) (p:=1) (o:=⟨[.ptr (.own (H.length+1) 0 0 0 0) 0,.val (.slice none 0 0),.val (.slice none 0 0),i64 most,i64 1,bl zero,bl false,i64 pl,.val (.slice none 0 0),.val (.slice none 0 0)],82,0,true⟩) ?_ rfl rfl 85 3)
  (LI.tell (Tell.own0 (j:=H.length+2) (p:=2) (o:=⟨[.ptr (.own (H.length+1) 0 0 0 0) 0,.own (H.length+3) 0 0 3 0,.val (.slice none 0 0),i64 most,i64 1,bl zero,bl false,i64 pl,.val (.slice none 0 0),.val (.slice none 0 0)],82,0,true⟩) ?_ rfl rfl 122 4)
  (LI.tell (Tell.own0 (j:=H.length+2) (p:=8) (o:=⟨[.ptr (.own (H.length+1) 0 0 0 0) 0,.own (H.length+3) 0 0 3 0,.own (H.length+4) 0 0 4 0,i64 most,i64 1,bl zero,bl false,i64 pl,.val (.slice none 0 0),.val (.slice none 0 0)],82,0,true⟩) ?_ rfl rfl 59 6)
  (LI.tell (Tell.own0 (j:=H.length+2) (p:=9) (o:=⟨[.ptr (.own (H.length+1) 0 0 0 0) 0,.own (H.length+3) 0 0 3 0,.own (H.length+4) 0 0 4 0,i64 most,i64 1,bl zero,bl false,i64 pl,.own (H.length+5) 0 0 6 0,.val (.slice none 0 0)],82,0,true⟩) ?_ rfl rfl 45 2)
  (LI.cong (H':=(⟨l,[],0,most,zero,pl⟩:Mc).hp (H++[⟨[i64 0,.val (.slice none 0 0),.val (.slice none 0 0)],25,0,true⟩]) [] ⟨a,1,0,0,0,[],[],[]⟩) ?_
   (loop36 (A:=H++[⟨[i64 0,.val (.slice none 0 0),.val (.slice none 0 0)],25,0,true⟩]) (m0:=m0) hl p1 p2 (by omega) (fun env B lv a hlv hq ha k1 k8 k9 => ?_) m0 _ [] [] a (by simp) (by simp) ha ?_ ?_ ?_ ?_)))))
 · simp only[get_app,Go.Ab.set_app,List.set_cons_succ,List.set_cons_zero]; rfl
 · simp only[get_app,Go.Ab.set_app,List.set_cons_succ,List.set_cons_zero]; simp[get_app]
 · simp[get_app,Go.Ab.set_app]
 · simp[get_app,Go.Ab.set_app]
 · simp[Mc.hp,Mc.D,Mc.L,Mc.M,Mc.V,Mc.N,Mc.I,rws,Go.Ab.set_app]
 · simp at k8 k9
   have hc:(⟨l,lv,lv.length,most,zero,pl⟩:Mc).Good:=⟨hl,p1,p2,m2,by simp only; omega,hq⟩
   have hi:MInv ⟨l,lv,lv.length,most,zero,pl⟩ ⟨a,1,0,0,0,[],[],[]⟩ 0:=⟨ha,rfl,fun j h=>by simp at h,by simp,fun j h=>by simp at h,by simp,by simp,by simp,by simp only[List.length_nil]; omega⟩
   obtain⟨np,hnp⟩:∃ np:Nat,pl=np:=⟨pl.toNat,by omega⟩
   have hb:=build_ok hc lv.length 0 (by simp) (H++[⟨[i64 0,.val (.slice none 0 0),.val (.slice none 0 0)],25,0,true⟩]) (B++[⟨[],36,1,false⟩]) ⟨a,1,0,0,0,[],[],[]⟩ (List.replicate np []) hi (fun i j u v h=>by simp at h) (by simp) (by simp[hnp]) (by intro x hx; simp[List.mem_replicate]at hx; simp[hx.2])
   simp -implicitDefEqProofs[k1,k8,k9,Mc.hp,Mc.M]
   refine⟨by omega,by omega,by omega,?_⟩
   refine call_goP (OkP.give (H.length+(B.length+7)) 1 (o:=⟨List.replicate np nl,36,0,true⟩) ?_ rfl (OkP.le ?_ (OkP.cast rfl ?_ hb))) ?_
   · rw[get_app]
     simp[get_app0,get_app,hnp]
   · simp[hnp,seenV,Nat.add_assoc]
     refine leL.cons (SV.le.refl _) (leL.cons (SV.le.refl _) (leL.cons (le_slc ⟨by simp,fun j x y h1 h2 => ?_⟩ _) leL.nil))
     simp[List.getElem?_replicate]at h1 h2
     obtain⟨_,rfl⟩:=h1
     obtain⟨_,rfl⟩:=h2
     exact le_nil
   · simp[Mc.hp,Mc.M,Go.Ab.set_app,set_app0,AO.dead,hnp]
   rintro o G' ⟨rfl,s',sub,isN,vsN,hp,hgh,rfl⟩
   simp -implicitDefEqProofs[k1,k8,k9,Mc.hp,Mc.M]
   have e1:s'.ns=sub:=hp.ns
   have hml:=hp.inv.ml
   have hpe:=hp.pend
   simp only at hml hpe
   have:=hfin hcl ⟨l,lv,lv.length,most,zero,pl⟩ s' (B++[⟨[],36,1,false⟩]) ⟨[i64 pl,.own (H.length+1+4) 0 s'.ns.length 6 s'.vn,.own (H.length+1+5) 0 s'.is.length 2 s'.vi],25,0,true⟩
    ⟨rfl,by show 1≤s'.ns.length; rw[e1]; exact hp.wlk.pos,by show(s'.ns.length:Int)≤most; omega,hp.inv.il,by show Wlk 0 10 s'.ns; rw[e1]; exact hp.wlk.mono (by simp only; omega),by show ∀ x∈s'.ns,x.good pl s'.is; rw[e1]; exact hp.good,by show rg s'.ns 0=some s'.is.length; rw[e1]; exact hp.rg,hp.inv.isr,rcl_of hnp (by rw[e1]; exact hgh)⟩
   simpa[gv36,Mc.hp,Mc.M]using this
 all_goals simp
theorem slN_le (l:List Int):SV.le (slN l) (sl l):=by
 unfold slN
 split
 · rename_i h; subst h; exact le_nil
 · exact SV.le.refl _
theorem cN_le (x:Nd):leL x.cN x.cells:=leL.cons (SV.le.refl _) (leL.cons (SV.le.refl _) (leL.cons (SV.le.refl _) (leL.cons (slN_le _) (leL.cons (slN_le _) (leL.cons (slN_le _) leL.nil)))))
theorem gN_le (g:Gm):SV.le (.agg [i64 g.pl,.slc (rws Nd.cN g.ns) g.ns.length,.slc (rws icN g.is) g.is.length]) (.agg g.cells):=by
 unfold Gm.cells
 rw[nds_rws,infs_rws]
 exact le_agg (leL.cons (SV.le.refl _) (leL.cons (le_slc (leL.rws cN_le _) _) (leL.cons (SV.le.refl _) leL.nil)))
theorem icN_under (n:Nat) (x:Int×Int):SV.underL n (icN x)=true:=by simp[icN,SV.underL,SV.under]
theorem ok11 {l:List Int} {pl most:Int} {zero:Bool} (hl:l.length<4611686018427387904) (p1:1≤pl) (p2:pl≤1000) (m1:1≤most) (m2:most≤2000) :
 OkP Try.prog 11 [.slc (ints l) l.length,i64 pl,i64 most,bl zero] H fun o H'=>∃ g,Made pl most g∧o=.ret (.agg g.cells)∧H'=H:=by
 refine gen36 hl p1 p2 m1 m2 fun hcl c s B o hm=>⟨_,H,⟨_,hm,rfl,rfl⟩,?_⟩
 refine Cv.le ?_ (gN_le ⟨pl,s.ns,s.is⟩)
 have z1:=rws_len Nd.lenN s.ns
 have z2:=rws_len icN_len s.is
 have e:c.hp (H++[o]) B s=H++(o::c.D s::c.M (H++[o]).length s::c.L::Mc.V s::Mc.N s::Mc.I s::B):=by simp[Mc.hp]
 rw[e]
 refine cv_fz 4 hcl rfl ?_
 simp[gv36,Mc.N,Mc.I,placeOf,z1,z2,List.take_of_length_le,map_fz_under,rws_under (cN_under _),rws_under (icN_under _)]
end
end Go.Proofs.Ytogjmpkehjfecaa.Rc
namespace Go.Proofs.Ytogjmpkehjfecaa.Rc
open Go.Ab Go.Ab.Shr
end Go.Proofs.Ytogjmpkehjfecaa.Rc
namespace Go.Proofs.Ytogjmpkehjfecaa.Rc
open Go.Ab Go.Ab.Shr
section
variable {H:List AO}
theorem ok46 (p i:Int) {k n v:Nat} (hk:k<H.length):Ok Try.prog 46 [i64 p,i64 i,.own k 0 n 1 v] H (.ret (.agg [i64 2,i64 p,i64 i,.own k 0 n 1 v,nl,nl])) H:=by
 refine ok_fn hm Try.func46 c46 (by simp[SV.under,hk]) fun hcl => ?_
 simp -implicitDefEqProofs[i46,r46]
 exact⟨rfl,cv_fz 2 hcl rfl (fz_under (by simp[SV.under,hk]))⟩
theorem ok47 (p:Int) (hp : -1000≤p∧p≤1000):Ok Try.prog 47 [i64 p] H (.ret (.agg [i64 3,i64 0,i64 0,nl,nl,.slc (ints [p,-p]) 2])) H:=by
 refine ok_fn hm Try.func47 c47 (by simp) fun hcl => ?_
 have w1:IntKind.i64.wrap (-p) = -p:=wrap_id (by omega) (by omega)
 simp -implicitDefEqProofs[i47,r47,w1]
 exact⟨rfl,cv_fz 3 hcl rfl (by simp[ints])⟩
def exG:Gm:=⟨2,[⟨2,0,0,[1,2],[],[]⟩,⟨3,0,0,[],[],[1,-1]⟩,⟨2,1,1,[3,4],[],[]⟩,⟨3,0,0,[],[],[0,0]⟩,⟨2,0,2,[5,6,7],[],[]⟩,⟨3,0,0,[],[],[2,-2]⟩,⟨3,0,0,[],[],[-1,1]⟩,⟨3,0,0,[],[],[3,-3]⟩],[(0,2),(1,2),(0,3)]⟩
set_option maxRecDepth 10000 in
theorem ok25:Ok Try.prog 25 [] H (.ret (.agg exG.cells)) H:=by
 refine ok_fn hm Try.func25 c25 (by simp) fun hcl => ?_
 have h47:=fun H p hp=>ok47 (H:=H) p hp
 simp -implicitDefEqProofs[i25,r25]
 refine call_go (ok46 0 0 (by simp)) ?_
 simp -implicitDefEqProofs
 refine call_go (ok47 1 (by omega)) ?_
 simp -implicitDefEqProofs
 refine call_go (ok46 1 1 (by simp)) ?_
 simp -implicitDefEqProofs
 refine call_go (ok47 0 (by omega)) ?_
 simp -implicitDefEqProofs
 refine call_go (ok46 0 2 (by simp)) ?_
 simp -implicitDefEqProofs
 refine call_go (ok47 2 (by omega)) ?_
 simp -implicitDefEqProofs
 refine call_go (ok47 (-1) (by omega)) ?_
 simp -implicitDefEqProofs
 refine call_go (ok47 3 (by omega)) ?_
 simp -implicitDefEqProofs
 refine⟨rfl,Cv.le (cv_fz 5 hcl rfl rfl) ?_⟩
 have e1:(1+1:Nat)=2:=rfl
 simp[ints,exG,Gm.cells,nds,Nd.cells,infs,sl]
 refine le_agg (leL.cons (SV.le.refl _) (leL.cons (le_slc ?_ _) (leL.refl _)))
 repeat (first | exact leL.nil | refine leL.cons (SV.le.refl _) ?_ | refine leL.cons le_nil ?_)
end
end Go.Proofs.Ytogjmpkehjfecaa.Rc
namespace Go.Proofs.Ytogjmpkehjfecaa.Rc
open Go.Ab Go.Ab.Shr
def newR (g:Gm):Tin×Int:=if g.prpE≠0 then(.zero,g.prpE)else(⟨0,0,(List.range g.is.length).map (zersA g),(List.range g.is.length).map (zersA g)⟩,0)
section
variable {H:List AO} {g:Gm}
set_option maxRecDepth 10000 in
theorem ok13:Ok Try.prog 13 [.agg g.cells] H (.ret (.tup [.agg (newR g).1.cells,i64 (newR g).2])) H:=by
 refine ok_fn hm Try.func13 c13 (by simp[Gm.cells,nds_under,infs_under]) fun hcl => ?_
 have h36:=fun H=>ok36 (H:=H) (g:=g)
 simp only[Gm.cells]at h36
 simp -implicitDefEqProofs[i13,r13,Gm.cells]
 refine call_go (h36 _) ?_
 by_cases hp:g.prpE=0
 · have hW:Wg g:=prp_form hp
   have e:newR g=(⟨0,0,(List.range g.is.length).map (zersA g),(List.range g.is.length).map (zersA g)⟩,0):=by unfold newR; rw[if_neg (by simpa using hp)]
   have h37:=fun H=>ok37 (H:=H) hW
   simp only[Gm.cells]at h37
   simp -implicitDefEqProofs[hp]
   refine call_go (h37 _) ?_
   simp -implicitDefEqProofs
   refine call_go (h37 _) ?_
   have hb:=blkO_len g g.is.length
   have hbr:=blkO_row g g.is.length
   generalize blkO g g.is.length=M at *
   simp -implicitDefEqProofs
   rw[e]
   have hcv:=fun(L:List AO) (r:SV) (h:SV.fz H.length [] L 6 r=.tup [.agg (Tin.mk 0 0 ((List.range g.is.length).map (zersA g)) ((List.range g.is.length).map (zersA g))).cells,i64 0])=>cv_fz (n0:=H.length) (H:=H) (L:=L) 6 hcl rfl h
   refine hcv _ _ ?_
   have key:∀ (L:List AO) (a b:Nat) (qa qb:Nat->Nat),L[a]? = some ⟨outs g.is.length qa g.acts 0,36,0,true⟩->L[b]? = some ⟨outs g.is.length qb g.acts 0,36,0,true⟩->(∀ i,i<g.is.length->H.length≤qa i∧L[qa i-H.length]? = some (rowO 0 (zers (g.acts i))))->(∀ i,i<g.is.length->H.length≤qb i∧L[qb i-H.length]? = some (rowO 0 (zers (g.acts i)))) →
    SV.fz H.length [] L 6 (.tup [.agg [i64 0,i64 0,.own (H.length+a) 0 g.is.length 1 0,.own (H.length+b) 0 g.is.length 1 0],i64 0])=.tup [.agg (Tin.mk 0 0 ((List.range g.is.length).map (zersA g)) ((List.range g.is.length).map (zersA g))).cells,i64 0]:=by
    intro L a b qa qb ha hb hqa hqb
    have at':∀ k,H.length≤k->(H++L)[k]? = L[k-H.length]? := fun k hk=>by rw[List.getElem?_append_right hk]
    have fS:=fz_outsN (H:=H) (G:=H++L) (p:=H.length+a) (A:=zersA g) (by omega) (by rw[at' _ (by omega),show H.length+a-H.length=a by omega]; exact ha) (fun i hi=>⟨(hqa i hi).1,by rw[at' _ (hqa i hi).1]; exact(hqa i hi).2,by simp[zersA,zers]⟩) 1
    have fP:=fz_outsN (H:=H) (G:=H++L) (p:=H.length+b) (A:=zersA g) (by omega) (by rw[at' _ (by omega),show H.length+b-H.length=b by omega]; exact hb) (fun i hi=>⟨(hqb i hi).1,by rw[at' _ (hqb i hi).1]; exact(hqb i hi).2,by simp[zersA,zers]⟩) 1
    rw[List.drop_left]at fS fP
    simp only[fz_tup,List.map_cons,List.map_nil,fz_agg,fz_i64,Nat.reduceAdd,fS,fP]
    simp[Tin.cells]
   refine key _ 3 (M.length+5) (pB (H.length+2)) (pB (H.length+(M.length+4))) rfl ?_ (fun i hi=>⟨by unfold pB; omega,?_⟩) (fun i hi=>⟨by unfold pB; omega,?_⟩)
   · rw[show M.length+5=(M.length+1)+4 by omega]
     simp only[List.getElem?_cons_succ]
     rw[List.getElem?_append_right (by omega),show M.length+1-M.length=1 by omega]; rfl
   · rw[show pB (H.length+2) i-H.length=(2*i+1)+4 by unfold pB; omega]
     simp only[List.getElem?_cons_succ]
     rw[List.getElem?_append_left (by omega)]; exact hbr i hi
   · rw[show pB (H.length+(M.length+4)) i-H.length=(M.length+(2*i+1+2))+4 by unfold pB; omega]
     simp only[List.getElem?_cons_succ]
     rw[List.getElem?_append_right (by omega),show M.length+(2*i+1+2)-M.length=2*i+1+2 by omega]
     simp only[List.getElem?_cons_succ]
     exact hbr i hi
 · have e:newR g=(.zero,g.prpE):=by unfold newR; rw[if_pos hp]
   rw[e]
   simp -implicitDefEqProofs[hp]
   exact⟨rfl,cv_zero hcl _ _⟩
end
end Go.Proofs.Ytogjmpkehjfecaa.Rc
namespace Go.Proofs.Ytogjmpkehjfecaa.Rc
open Go.Ab Go.Ab.Shr
structure Sml (g:Gm):Prop where
 w:Wg g
 prp:g.prpE=0
 n:g.ns.length≤60
theorem Made.sml {pl most:Int} {g:Gm} (h:Made pl most g) (p1:1≤pl) (p4:pl≤4) (hm:most≤60):Sml g:=by
 have hf:=h.form p1 p4 (by omega)
 have hW:=wg_of hf
 obtain⟨lvs,V,gs,hr⟩:=h.rcl
 have:=h.ml
 refine⟨hW,hr.prp hW hf fun x hx hk => ?_,by omega⟩
 rcases h.good x hx with h1 | ⟨a1,a2,a3,a4,a5,a6,a7,a8,a9⟩ | h1
 · omega
 · exact⟨_,a9⟩
 · omega
def T0 (g:Gm):Tin:=⟨0,0,(List.range g.is.length).map (zersA g),(List.range g.is.length).map (zersA g)⟩
def z0 (g:Gm):TS:=s0T g 0 0 (T0 g).A (T0 g).P
section
variable {g:Gm}
theorem new_T0 (h:Sml g):newR g=(T0 g,0):=by
 unfold newR
 rw[if_neg (by rw[h.prp]; simp)]
 rfl
theorem outT_eq {t:Tin} (hA:t.A.length=g.is.length) (hP:t.P.length=g.is.length):outT g (s0T g t.rnd t.seed t.A t.P)=t:=by
 have e:∀ L:List (List Int),L.length=g.is.length->(List.range g.is.length).map (fun i=>L.getD i [])=L:=fun L hL=>by
  apply List.ext_getElem?
  intro i
  by_cases hi:i<g.is.length
  · simp[hi,show i<L.length by omega]
  · simp[hi,show L.length≤i by omega]
 simp only[outT,s0T,e _ hA,e _ hP]
theorem getD_zers (n a:Nat):(zers n).getD a 0=0:=by
 by_cases h:a<n<;>simp[zers,h,List.getD_eq_getElem?_getD]
theorem z0_A (i:Nat):(z0 g).A i=if i<g.is.length then zersA g i else []:=by
 simp only[z0,s0T,T0]
 by_cases h:i<g.is.length<;>simp[h]
theorem z0_P (i:Nat):(z0 g).P i=if i<g.is.length then zersA g i else []:=z0_A i
theorem chk_T0 (h:Sml g):chkS g (T0 g)=0:=by
 unfold chkS
 rw[if_neg (by rw[h.prp]; simp),<- outT_eq (g:=g) (t:=T0 g) (by simp[T0]) (by simp[T0])]
 refine(out_zero h.w (fun i hi => ?_) (fun i hi => ?_) ?_ ?_ (fun i hi a => ?_)).2 fun i hi a ha => ?_
 · show((z0 g).A i).length=_
   rw[z0_A,if_pos hi]; simp[zersA]
 · show((z0 g).P i).length=_
   rw[z0_P,if_pos hi]; simp[zersA]
 · simp[s0T,T0]
 · simp[s0T,T0]
 · show 0≤((z0 g).P i).getD a 0
   rw[z0_P,if_pos hi,zersA,getD_zers]; exact Int.le_refl _
 · show okAt (z0 g) i a
   unfold okAt
   rw[z0_A,z0_P,if_pos hi,zersA,getD_zers]; omega
theorem z0_sok (h:Sml g):SOk g (z0 g):=s0_sok (chk_T0 h)
theorem z0_bd:SBd (z0 g) 0 0:=by
 refine⟨fun j a => ?_,fun j a => ?_⟩
 · rw[z0_A]
   split
   · rw[zersA,getD_zers]; omega
   · simp
 · rw[z0_P]
   split
   · rw[zersA,getD_zers]; omega
   · simp
theorem run_T0 (h:Sml g) {m:Nat} (hm:m≤200):∃ s,rnds g m (z0 g)=some s∧SOk g s∧SBd s (2048000000*60*m) (1073741824*m)∧s.rnd=m∧s.seed=0∧runR g (T0 g) m=(outT g s,0):=by
 have hb:SBd (z0 g) (2048000000*60*(0:Nat)) (1073741824*(0:Nat)):=by simpa using z0_bd (g:=g)
 obtain⟨s,h1,h2,h3,h4,h5⟩:=rnds_bd h.w h.n m (z0 g) 0 (z0_sok h) hb (by simp[z0,s0T,T0]; omega) (by omega)
 refine⟨s,h1,h2,by simpa using h3,by rw[h4]; simp[z0,s0T,T0],by rw[h5]; rfl,?_⟩
 unfold runR
 rw[if_neg (by rw[chk_T0 h]; simp),if_neg (by simp only[T0]; omega)]
 have e:rnds g (m:Int).toNat (s0T g (T0 g).rnd (T0 g).seed (T0 g).A (T0 g).P)=some s:=by rw[Int.toNat_natCast]; exact h1
 rw[e]
end
end Go.Proofs.Ytogjmpkehjfecaa.Rc
namespace Go.Proofs.Ytogjmpkehjfecaa.Rc
open Go.Ab Go.Ab.Shr
def Nd.sw (x:Nd):Nd:=⟨x.k,if x.k=2 then 1-x.p else x.p,x.i,x.nx,x.ws,if x.k=3 then [x.ps.getD 1 0,x.ps.getD 0 0]else x.ps⟩
def Gm.sw (g:Gm):Gm:=⟨g.pl,g.ns.map Nd.sw,g.is.map fun q=>(1-q.1,q.2)⟩
theorem walkR_nx:∀ (f:Nat) {ns ns':List Nd} (_:ns.map Nd.nx=ns'.map Nd.nx) (dep:Int) (k:Nat) (m:Int),walkR ns f dep k m=walkR ns' f dep k m
 | 0,ns,ns',_,dep,k,m=>rfl
 | f+1,ns,ns',h,dep,k,m=>by
  have h1:(ns[k]?).map Nd.nx=(ns'[k]?).map Nd.nx:=by rw[←List.getElem?_map,<- List.getElem?_map,h]
  have h2:walkR ns f (dep+1)=walkR ns' f (dep+1):=funext fun k=>funext fun m=>walkR_nx f h (dep+1) k m
  unfold walkR
  cases hk:ns[k]? with
  | none=>rw[hk]at h1; cases hk':ns'[k]? with
   | none=>rfl
   | some y=>rw[hk']at h1; cases h1
  | some x=>rw[hk]at h1; cases hk':ns'[k]? with
   | none=>rw[hk']at h1; cases h1
   | some y =>
    rw[hk']at h1
    simp only[Option.map_some,Option.some.injEq]at h1
    simp only[h1,h2]
theorem Wlk.nx {b h:Nat} {sub sub':List Nd} (hw:Wlk b h sub) (e:sub.map Nd.nx=sub'.map Nd.nx):Wlk b h sub':=by
 intro pre post f dep m hb hf
 have hl:sub.length=sub'.length:=by have:=congrArg List.length e; simpa using this
 obtain⟨m',h1,h2⟩:=hw pre post f dep m hb (by omega)
 refine⟨m',?_,h2⟩
 rw[←hl,<- h1]
 exact(walkR_nx f (by simp[e]) dep b m).symm
theorem sw_rg:∀ (l:List Nd) (c:Nat),rg (l.map Nd.sw) c=rg l c
 | [],c=>rfl
 | x::r,c=>by
  simp only[List.map_cons,rg]
  have e1:x.sw.k=x.k:=rfl
  have e2:x.sw.i=x.i:=rfl
  rw[e1,e2,sw_rg r c,sw_rg r (c+1)]
theorem sw_occ (s:Nat):∀ (l:List Nd) (o:Nat),occ s (l.map Nd.sw) o=occ s l o
 | [],o=>rfl
 | x::r,o=>by
  simp only[List.map_cons,occ]
  have e1:x.sw.k=x.k:=rfl
  have e2:x.sw.i=x.i:=rfl
  rw[e1,e2,sw_occ s r (o+1)]
section
variable {g:Gm}
theorem sw_len:g.sw.ns.length=g.ns.length:=by simp[Gm.sw]
theorem sw_il:g.sw.is.length=g.is.length:=by simp[Gm.sw]
theorem sw_at {i:Nat} (h:i<g.ns.length) (h':i<g.sw.ns.length):g.sw.ns[i]=g.ns[i].sw:=by simp[Gm.sw]
theorem sw_get (i:Nat):g.sw.ns[i]? = (g.ns[i]?).map Nd.sw:=by simp[Gm.sw]
theorem sw_acts (i:Nat):g.sw.acts i=g.acts i:=by
 unfold Gm.acts Gm.sw
 by_cases h:i<g.is.length<;>simp[h,List.getD_eq_getElem?_getD]
theorem sw_form {most:Int} (h:Made 2 most g) (hm:most≤60):g.sw.formE=0:=by
 have:=h.ml; have:=h.il; have hp:=h.pl; have:=h.n1
 refine made_ok (by show 1≤g.pl; omega) (by show g.pl≤4; omega) (by rw[sw_len]; exact h.n1) (by rw[sw_len]; omega) (by rw[sw_il]; omega) (h:=10) (h.wlk.nx (by simp[Gm.sw,Function.comp_def,Nd.sw])) (by omega) (fun y hy => ?_) (by rw[sw_il]; exact(sw_rg _ _).trans h.rg)
 obtain⟨x,hx,rfl⟩:=List.mem_map.1 hy
 show x.sw.good g.pl _
 rw[hp]
 rcases h.good x hx with ⟨a1,a2,a3,a4,a5,a6,a7,a8⟩ | ⟨a1,a2,a3,a4,a5,a6,a7,a8,a9⟩ | ⟨a1,a2,a3,a4,a5,a6,a7⟩
 · refine .inl ⟨a1,?_,a3,?_,a5,a6,a7,a8⟩
   · simp[Nd.sw,a1,a2]
   · simp[Nd.sw,a1,a4]
 · refine .inr (.inl ⟨a1,a2,?_,a4,a5,?_,?_,a8,?_⟩)
   · simp[Nd.sw,a1,a3]
   · simp[Nd.sw,a1]; omega
   · simp[Nd.sw,a1]; omega
   · show(g.is.map fun q=>(1-q.1,q.2))[x.i.toNat]? = _
     rw[List.getElem?_map,a9]
     simp[Nd.sw,a1]
 · refine .inr (.inr ⟨a1,?_,a3,a4,a5,?_,?_⟩)
   · simp[Nd.sw,a1,a2]
   · simp[Nd.sw,a1]
   · have e:x.sw.ps=[x.ps.getD 1 0,x.ps.getD 0 0]:=by simp[Nd.sw,a1]
     rw[e]
     have hl:x.ps.length=2:=by omega
     intro w hw
     simp[List.getD_eq_getElem?_getD,hl]at hw
     rcases hw with rfl | rfl
     · exact a7 _ (List.getElem_mem _)
     · exact a7 _ (List.getElem_mem _)
theorem sw_way (hW:Wg g) (hW':Wg g.sw) (q:Int):∀ (n a:Nat),a≤n->a<g.ns.length->g.sw.way a (1-q)=g.way a q:=by
 intro n
 induction n with
 | zero =>
  intro a ha hl
  have:a=0:=by omega
  subst this
  rw[way_root hW,way_root hW']
 | succ n ih =>
  intro a ha hl
  rcases Nat.eq_zero_or_pos a with e0 | e0
  · subst e0
    rw[way_root hW,way_root hW']
  · obtain⟨p,hp,h1,h2,h3⟩:=hW.wf.pf a e0 hl
    obtain⟨k,hk,h4⟩:=List.getElem_of_mem h3
    have hp':p<g.sw.ns.length:=by rw[sw_len]; exact hp
    have es:=sw_at hp hp'
    have hk':k<g.sw.ns[p].nx.length:=by rw[es]; exact hk
    rw[way_child hW hp hk h4,way_child hW' (pl:=1-q) hp' hk' (c:=a) (by simp only[es]; exact h4),ih p (by omega) hp]
    rw[es]
    have e1:g.ns[p].sw.k=g.ns[p].k:=rfl
    have e2:g.ns[p].sw.i=g.ns[p].i:=rfl
    rw[e1,e2]
    by_cases hc:g.ns[p].k=2
    · have e3:g.ns[p].sw.p=1-g.ns[p].p:=by simp[Nd.sw,hc]
      rw[e3]
      by_cases hq:g.ns[p].p=q
      · rw[if_pos ⟨hc,by omega⟩,if_pos ⟨hc,hq⟩]
      · rw[if_neg (by omega),if_neg (by omega)]
    · rw[if_neg (fun h=>hc h.1),if_neg (fun h=>hc h.1)]
theorem prp_perf (hf:g.formE=0) (h:g.prpE=0) {q:Nat} (hq:(q:Int)<g.pl):g.perf q=true:=by
 unfold Gm.prpE at h
 rw[if_neg (by simpa using hf),fstE_zero]at h
 have:=h q (Nat.zero_le _) (by omega)
 unfold perQ at this
 split at this
 · assumption
 · cases this
theorem sw_prp (hf:g.formE=0) (hf':g.sw.formE=0) (h2:g.pl=2) (h:g.prpE=0):g.sw.prpE=0:=by
 have hW:=wg_of hf
 have hW':=wg_of hf'
 unfold Gm.prpE
 rw[if_neg (by simpa using hf'),fstE_zero]
 intro j _ hj
 have hj2:j<2:=by
  have:g.sw.pl=g.pl:=rfl
  rw[this,h2]at hj
  simpa using hj
 unfold perQ
 have hp:=prp_perf hf h (q:=1-j) (by omega)
 unfold Gm.perf at hp
 rw[setsP hW g.is.length 0 (by omega)]at hp
 rw[if_pos]
 unfold Gm.perf
 rw[setsP hW' g.sw.is.length 0 (by omega)]
 rintro t _ ht hpl ⟨hs,ht',v,hv,hne⟩
 have ht0:t<g.is.length:=by rw[←sw_il]; exact ht
 have e1:g.sw.is[t]=(1-g.is[t].1,g.is[t].2):=by simp[Gm.sw]
 rw[e1]at hpl hne
 have hs0:t<g.sets.length:=by rw[sets_len]; exact ht0
 have es:g.sw.sets[t]=g.sets[t]:=by
  rw[sets_occ hs,sets_occ hs0]
  exact sw_occ t g.ns 0
 rw[es]at hv hne
 have hvr:=sets_mem hs0 hv
 have hhr:g.sets[t].headD 0∈g.sets[t]:=by
  cases hc:g.sets[t]with
  | nil=>exact absurd hc (hW.ne t hs0)
  | cons u l=>simp
 have hhr:=sets_mem hs0 hhr
 refine hp t (Nat.zero_le _) ht0 (by simp only at hpl; omega) ⟨hs0,ht0,v,hv,fun e=>hne ?_⟩
 simp only
 rw[sw_way hW hW' _ g.ns.length _ (by omega) (by omega),sw_way hW hW' _ g.ns.length _ (by omega) (by omega)]
 exact e
theorem sw_sml {most:Int} (h:Made 2 most g) (hm:most≤60):Sml g.sw:=by
 have h1:=h.sml (by omega) (by omega) hm
 have hf:=h.form (by omega) (by omega) (by omega)
 have hf':=sw_form h hm
 exact⟨wg_of hf',sw_prp hf hf' h.pl h1.prp,by rw[sw_len]; exact h1.n⟩
theorem sw_T0:T0 g.sw=T0 g:=by
 have e:zersA g.sw=zersA g:=by funext i; simp[zersA,sw_acts]
 simp only[T0,sw_il,e]
end
end Go.Proofs.Ytogjmpkehjfecaa.Rc
namespace Go.Proofs.Ytogjmpkehjfecaa.Rc
open Go.Ab Go.Ab.Shr
section
variable {g:Gm} {M M' V V' R R':List Int} {S S':Nat->List Int}
theorem sw_brP (hS:∀ j,j<g.is.length->S' j=S j) (hW:Wg g) {i k:Nat} (hi:i<g.ns.length) (hk:k<g.ns[i].nx.length):brP g.sw S' i k=brP g S i k:=by
 have hx:g.ns[i]? = some g.ns[i]:=List.getElem?_eq_getElem hi
 simp only[brP,sw_get,hx,Option.map_some]
 rcases kd_of hW hi with h | h | h
 · have e:g.ns[i].sw.k=1:=h
   rw[if_pos e,if_pos h]; rfl
 · have e:g.ns[i].sw.k=2:=h
   rw[if_neg (by omega),if_neg (by omega)]
   show(S' g.ns[i].i.toNat).getD k 0=_
   rw[hS _ (mv_of hW hi h).1]
 · rw[(en_of hW hi h).1]at hk; simp at hk
theorem sw_brW (hm:∀ i (h:i<g.ns.length),g.ns[i].k=1->M.getD i 0=wsum g.ns[i].ws∧0<M.getD i 0) (hm':∀ i (h:i<g.sw.ns.length),g.sw.ns[i].k=1->M'.getD i 0=wsum g.sw.ns[i].ws∧0<M'.getD i 0) {i:Nat} (hi:i<g.ns.length):brW g.sw M' i=brW g M i:=by
 have hx:g.ns[i]? = some g.ns[i]:=List.getElem?_eq_getElem hi
 simp only[brW,sw_get,hx,Option.map_some]
 have hi':i<g.sw.ns.length:=by rw[sw_len]; exact hi
 have es:=sw_at hi hi'
 have ek:g.ns[i].sw.k=g.ns[i].k:=rfl
 rw[ek]
 by_cases h:g.ns[i].k=1
 · rw[if_pos h,if_pos h]
   have h1:=(hm i hi h).1
   have h2:=(hm' i hi' (by rw[es]; exact h)).1
   rw[h1,h2,es]; rfl
 · rw[if_neg h,if_neg h]
theorem sw_val (hW:Wg g) (h2:g.pl=2) (hS:∀ j,j<g.is.length->S' j=S j) (hV:ValOk g M S V) (hV':ValOk g.sw M' S' V'):∀ (m i q:Nat),g.ns.length-m≤i->i<g.ns.length->q<2->V'.getD (i*4+q) 0=V.getD (i*4+(1-q)) 0:=by
 intro m
 induction m with
 | zero=>intro i q h1 h2; omega
 | succ m ih =>
  intro i q h1 hi hq
  have hx:g.ns[i]? = some g.ns[i]:=List.getElem?_eq_getElem hi
  have hp':g.sw.pl=g.pl:=rfl
  rw[hV.eq i (1-q) hi (by omega),hV'.eq i q (by rw[sw_len]; exact hi) (by rw[hp',h2]; omega)]
  simp only[valQ,sw_get,hx,Option.map_some]
  have ek:g.ns[i].sw.k=g.ns[i].k:=rfl
  have en:g.ns[i].sw.nx=g.ns[i].nx:=rfl
  rw[ek]
  by_cases h3:g.ns[i].k=3
  · rw[if_pos h3,if_pos h3]
    have e:g.ns[i].sw.ps=[g.ns[i].ps.getD 1 0,g.ns[i].ps.getD 0 0]:=by simp[Nd.sw,h3]
    rw[e]
    have hq':q=0∨q=1:=by omega
    rcases hq' with rfl | rfl<;>rfl
  · rw[if_neg h3,if_neg h3,sw_brW hV.m hV'.m hi,en]
    have acc:∀ k,k≤g.ns[i].nx.length->accQ g.sw S' V' g.ns[i].nx i q k=accQ g S V g.ns[i].nx i (1-q) k:=by
     intro k
     induction k with
     | zero=>intro _; rfl
     | succ k ihk =>
      intro hk
      have hkl:k<g.ns[i].nx.length:=by omega
      have hch:=(hW.wf.nf i hi).ch _ (List.getElem_mem hkl)
      have e:g.ns[i].nx.getD k 0=g.ns[i].nx[k]:=by simp[hkl]
      simp only[accQ]
      rw[ihk (by omega),sw_brP hS hW hi hkl,e,ih g.ns[i].nx[k].toNat q (by omega) (by omega) hq]
    rw[acc _ (Nat.le_refl _)]
theorem sw_rch (hW:Wg g) (h2:g.pl=2) {own:Bool} (hS:∀ j,j<g.is.length->S' j=S j) (hR:RchOk g own M S R) (hR':RchOk g.sw own M' S' R'):∀ (n i q:Nat),i≤n->i<g.ns.length->q<2->R'.getD (i*4+q) 0=R.getD (i*4+(1-q)) 0:=by
 have hp':g.sw.pl=g.pl:=rfl
 intro n
 induction n with
 | zero =>
  intro i q hi hl hq
  have:i=0:=by omega
  subst this
  simp only[Nat.zero_mul,Nat.zero_add]
  rw[hR.z (1-q) (by omega),hR'.z q (by rw[hp']; omega)]
 | succ n ih =>
  intro i q hi hl hq
  rcases Nat.eq_zero_or_pos i with e0 | e0
  · exact ih i q (by omega) hl hq
  · obtain⟨a,ha,h1,_,h3⟩:=hW.wf.pf i e0 hl
    obtain⟨k,hk,h4⟩:=List.getElem_of_mem h3
    have ha':a<g.sw.ns.length:=by rw[sw_len]; exact ha
    have es:=sw_at ha ha'
    have e1:(g.ns[a].nx.getD k 0).toNat=i:=by simp[hk,h4]
    have he:=hR.eq a k (1-q) ha hk (by omega)
    have he':=hR'.eq a k q ha' (by rw[es]; exact hk) (by rw[hp']; omega)
    rw[e1]at he
    have e2:(g.sw.ns[a].nx.getD k 0).toNat=i:=by rw[es]; exact e1
    rw[e2]at he'
    rw[he,he']
    unfold rchF
    have hx:g.ns[a]? = some g.ns[a]:=List.getElem?_eq_getElem ha
    have eh:hisQ g.sw a q=hisQ g a (1-q):=by
     simp only[hisQ,sw_get,hx,Option.map_some]
     by_cases hk2:g.ns[a].k=2
     · have e3:g.ns[a].sw.p=1-g.ns[a].p:=by simp[Nd.sw,hk2]
       have e4:g.ns[a].sw.k=2:=hk2
       rw[e3,e4,hk2]
       simp only[true_and,decide_eq_decide]
       omega
     · have e4:¬ g.ns[a].sw.k=2:=hk2
       simp[hk2,e4]
    rw[eh,sw_brP hS hW ha hk,sw_brW hR.m hR'.m ha,ih a q (by omega) ha hq]
theorem sw_dlt (hW:Wg g) (h2:g.pl=2) (hV:∀ i q:Nat,i<g.ns.length->q<2->V'.getD (i*4+q) 0=V.getD (i*4+(1-q)) 0) (hR:∀ i q:Nat,i<g.ns.length->q<2->R'.getD (i*4+q) 0=R.getD (i*4+(1-q)) 0) {i a:Nat} (hi:i<g.ns.length) (hk:g.ns[i].k=2) (ha:a<g.ns[i].nx.length):dltA g.sw V' R' i a=dltA g V R i a:=by
 have hx:g.ns[i]? = some g.ns[i]:=List.getElem?_eq_getElem hi
 simp only[dltA,sw_get,hx,Option.map_some]
 obtain⟨q0,q1⟩:=mp_of hW hi hk
 have e3:g.ns[i].sw.p.toNat=1-g.ns[i].p.toNat:=by simp[Nd.sw,hk]; omega
 have en:g.ns[i].sw.nx=g.ns[i].nx:=rfl
 have hch:=(hW.wf.nf i hi).ch _ (List.getElem_mem ha)
 have e:g.ns[i].nx.getD a 0=g.ns[i].nx[a]:=by simp[ha]
 rw[e3,en,e,hV i (1-g.ns[i].p.toNat) hi (by omega),hV _ (1-g.ns[i].p.toNat) (show g.ns[i].nx[a].toNat<g.ns.length by omega) (by omega),hR i (1-g.ns[i].p.toNat) hi (by omega),show 1-(1-g.ns[i].p.toNat)=g.ns[i].p.toNat by omega]
theorem rowF_congr {n:Nat} {f f':Nat->Int} (h:∀ i,i<n->f i=f' i):rowF n f=rowF n f':=by
 unfold rowF
 exact List.map_congr_left fun i hi=>h i (List.mem_range.1 hi)
theorem sw_lrn (hW:Wg g) (h2:g.pl=2) (hV:∀ i q:Nat,i<g.ns.length->q<2->V'.getD (i*4+q) 0=V.getD (i*4+(1-q)) 0) (hR:∀ i q:Nat,i<g.ns.length->q<2->R'.getD (i*4+q) 0=R.getD (i*4+(1-q)) 0) {A:Nat->List Int}:∀ i,i≤g.ns.length->lrnL g.sw V' R' A i=lrnL g V R A i
 | 0,_=>rfl
 | i+1,hi=>by
  have hii:i<g.ns.length:=by omega
  have hx:g.ns[i]? = some g.ns[i]:=List.getElem?_eq_getElem hii
  simp only[lrnL,lrnA,sw_get,hx,Option.map_some]
  rw[sw_lrn hW h2 hV hR i (by omega)]
  have ek:g.ns[i].sw.k=g.ns[i].k:=rfl
  have en:g.ns[i].sw.nx=g.ns[i].nx:=rfl
  have ei:g.ns[i].sw.i=g.ns[i].i:=rfl
  rw[ek,en,ei]
  by_cases hk:g.ns[i].k=2
  · rw[if_pos hk,if_pos hk,rowF_congr fun a ha=>by rw[sw_dlt hW h2 hV hR hii hk ha]]
  · rw[if_neg hk,if_neg hk]
theorem sw_frs (hW:Wg g) (hW':Wg g.sw) {j:Nat} (hj:j<g.is.length):frs g.sw j=frs g j:=by
 obtain⟨h1,_,h3,h4,h5⟩:=frs_ok hW hj
 obtain⟨k1,_,k3,k4,k5⟩:=frs_ok hW' (j:=j) (by rw[sw_il]; exact hj)
 have c1:frs g.sw j<g.ns.length:=by rw[←sw_len]; exact k1
 have e1:=sw_at c1 k1
 have c2:frs g j<g.sw.ns.length:=by rw[sw_len]; exact h1
 have e2:=sw_at h1 c2
 rcases Nat.lt_trichotomy (frs g.sw j) (frs g j)with h | h | h
 · rw[e1]at k3 k4
   exact absurd ⟨k3,k4⟩ (h5 _ h)
 · exact h
 · refine absurd ?_ (k5 _ h)
   rw[e2]
   exact⟨h3,h4⟩
structure SwR (s s':TS):Prop where
 r:s'.rnd=s.rnd
 d:s'.seed=s.seed
 A:s'.A=s.A
 P:s'.P=s.P
theorem sw_rnd (hW:Wg g) (hW':Wg g.sw) (h2:g.pl=2) {s s':TS} (h:SOk g s) (h':SOk g.sw s') (hr:SwR s s'):SwR (rndT g (cTC g) s) (rndT g.sw (cTC g.sw) s'):=by
 have hS:∀ j,j<g.is.length->(shL s' g.sw.is.length).S j=(shL s g.is.length).S j:=fun j hj=>by
  rw[shL_S s _ j hj,shL_S s' _ j (by rw[sw_il]; exact hj),hr.A]
 have hV:=sw_val hW h2 hS (tV_ok' hW h) (tV_ok' hW' h') g.ns.length
 have hR:=fun own q (R R':List Int) (hl:R.length=4*g.ns.length) (hl':R'.length=4*g.ns.length) i (hi:i<g.ns.length) hq=>sw_rch hW h2 (own:=own) hS (tR_ok' hW (s:=s) hl) (tR_ok' hW' (s:=s') (by rw[sw_len]; exact hl')) i i q (Nat.le_refl _) hi hq
 have l1:=h'.R
 have l2:=h'.O
 rw[sw_len]at l1 l2
 refine⟨?_,?_,?_,?_⟩
 · rw[rnd_r.1,rnd_r.1,hr.r]
 · rw[rnd_r.2,rnd_r.2,hr.d]
 · rw[rnd_A,rnd_A,hr.A,sw_len]
   exact sw_lrn hW h2 (fun i q hi hq=>hV i q (by omega) hi hq) (fun i q hi hq=>hR false q _ _ h.R l1 i hi hq) _ (Nat.le_refl _)
 · rw[rnd_P,rnd_P]
   funext j
   rw[ply_at,ply_at,hr.P,sw_il]
   by_cases hj:j<g.is.length
   · rw[if_pos hj,if_pos hj,sw_acts]
     have ho:=own_rng hW hj
     obtain⟨hf,hF,_⟩:=frs_ok hW hj
     have e1:ownI g.sw (cTC g.sw).F (tabR g.sw true s' s'.O) j=ownI g (cTC g).F (tabR g true s s.O) j:=by
      have a1:ownI g (cTC g).F (tabR g true s s.O) j=(tabR g true s s.O).getD (frs g j*4+(ownr g j).toNat) 0:=rfl
      have a2:ownI g.sw (cTC g.sw).F (tabR g.sw true s' s'.O) j=(tabR g.sw true s' s'.O).getD (frs g.sw j*4+(ownr g.sw j).toNat) 0:=rfl
      have a3:(ownr g.sw j).toNat=1-(ownr g j).toNat:=by
       have:ownr g.sw j=1-ownr g j:=by
        unfold ownr Gm.sw
        simp[hj,List.getD_eq_getElem?_getD]
       omega
      rw[a1,a2,a3,sw_frs hW hW' hj,hR true (1-(ownr g j).toNat) _ _ h.O l2 _ hf (by omega),show 1-(1-(ownr g j).toNat)=(ownr g j).toNat by omega]
     exact rowF_congr fun a ha=>by
      unfold plyF
      rw[e1]
      have:=hS j hj
      rw[sw_il]at this
      rw[this]
   · rw[if_neg hj,if_neg hj]
theorem sw_rnds (hW:Wg g) (hW':Wg g.sw) (h2:g.pl=2):∀ (m:Nat) (s s' t t':TS),SOk g s->SOk g.sw s'->SwR s s'->s.rnd+m≤1000000->rnds g m s=some t->rnds g.sw m s'=some t'->SwR t t'
 | 0,s,s',t,t',_,_,hr,_,e,e'=>by
  simp only[rnds,Option.some.injEq]at e e'
  subst e; subst e'; exact hr
 | m+1,s,s',t,t',h,h',hr,hb,e,e'=>by
  simp only[rnds]at e e'
  split at e
  · rename_i ho
    split at e'
    · rename_i ho'
      have h0:=h.r0
      have h1:=rnd_sok hW h (by omega) (okB_iff.1 ho)
      have h1':=rnd_sok hW' h' (by rw[hr.r]; omega) (okB_iff.1 ho')
      have w:=(rnd_r (g:=g) (s:=s)).1
      rw[wrap_id (by omega) (by omega)]at w
      exact sw_rnds hW hW' h2 m _ _ t t' h1 h1' (sw_rnd hW hW' h2 h h' hr) (by omega) e e'
    · cases e'
  · cases e
theorem sw_run {most:Int} (h:Made 2 most g) (hm:most≤60) {m:Nat} (hmm:m≤200):runR g.sw (T0 g.sw) m=runR g (T0 g) m∧(runR g (T0 g) m).2=0:=by
 have hs:=h.sml (by omega) (by omega) hm
 have hs':=sw_sml h hm
 obtain⟨s,a1,a2,a3,a4,a5,a6⟩:=run_T0 hs hmm
 obtain⟨s',b1,b2,b3,b4,b5,b6⟩:=run_T0 hs' hmm
 have hz:SwR (z0 g) (z0 g.sw):=by
  unfold z0
  rw[sw_T0]
  exact⟨rfl,rfl,rfl,rfl⟩
 have hr:=sw_rnds hs.w hs'.w h.pl m (z0 g) (z0 g.sw) s s' (z0_sok hs) (z0_sok hs') hz (by simp[z0,s0T,T0]; omega) a1 b1
 rw[a6,b6]
 refine⟨?_,rfl⟩
 simp only[outT,hr.r,hr.d,hr.A,hr.P,sw_il]
end
end Go.Proofs.Ytogjmpkehjfecaa.Rc
namespace Go.Proofs.Ytogjmpkehjfecaa.Rc
open Go.Ab
def r1P (j:Nat):Nat:=if j=0 then 1 else 5*j+2
def oC (b:Nat) (nd:Nat->Nd) (j:Nat):List SV:=[i64 (nd j).k,i64 (nd j).p,i64 (nd j).i,.own (b+r1P j) 0 (nd j).nx.length 1 2,.own (b+(r1P j+1)) 0 (nd j).ws.length 1 2,.own (b+(r1P j+2)) 0 (nd j).ps.length 1 2]
theorem oC_len {b:Nat} {nd:Nat->Nd} (j:Nat):(oC b nd j).length=6:=rfl
def ndA (g:Gm) (j:Nat):Nd:=g.ns.getD j ⟨0,0,0,[],[],[]⟩
structure OWM (b:Nat) (nd:Nat->Nd) (i:Nat) (M:List AO):Prop where
 len:M.length=5*i+1
 row:M[5]? = some ⟨rws (oC b nd) (List.range i),59,i,true⟩
 n:∀ j,j<i->M[r1P j]? = some ⟨ints (nd j).nx,3,2,true⟩
 w:∀ j,j<i->M[r1P j+1]? = some ⟨ints (nd j).ws,3,2,true⟩
 p:∀ j,j<i->M[r1P j+2]? = some ⟨ints (nd j).ps,3,2,true⟩
section
variable {H:List AO} {g:Gm}
set_option maxRecDepth 10000 in
theorem loop24k (hn:g.ns.length≤80) (hx:∀ x∈g.ns,x.nx.length≤80∧x.ws.length≤80∧x.ps.length≤80) {N:Nat} {K:XE->Env->List AO->Prop} {B C:AO}
 (hexit:∀ env M,(g.ns.length=0∨OWM (H.length+4) (ndA g) g.ns.length M)->env.get 2=.ptr (.own (H.length+1) 0 0 0 0) 0->env.get 3=.ptr (.own (H.length+3) 0 0 0 1) 0 →
  K (.exit 0) env (H++gbox g::B::C::⟨[i64 g.pl,nodesV (H.length+9) g.ns.length,.own (H.length+2) 0 g.is.length 2 2],25,1,true⟩::M)) :
 ∀ (n i:Nat) (env:Env) (M:List AO),i+n=g.ns.length->((i=0∧M=[])∨(0<i∧OWM (H.length+4) (ndA g) i M)) →
  env.get 1=.ptr (.own H.length 0 0 0 0) 0->env.get 2=.ptr (.own (H.length+1) 0 0 0 0) 0->env.get 3=.ptr (.own (H.length+3) 0 0 0 1) 0->env.get 4=i64 i →
  LI Try.prog N drawB l24_0 env (H++gbox g::B::C::⟨[i64 g.pl,nodesV (H.length+9) i,.own (H.length+2) 0 g.is.length 2 2],25,1,true⟩::M) K:=by
 intro n
 induction n with
 | zero =>
  intro i env M hi hM h1 h2 h3 h4
  refine li_go hm l24_0.eq_1 ?_
  have e:i=g.ns.length:=by omega
  subst e
  simp -implicitDefEqProofs[h1,h4,gbox]
  refine hexit _ _ ?_ (by simp[h2]) (by simp[h3])
  rcases hM with ⟨h,_⟩ | ⟨_,h⟩
  · exact .inl h
  · exact .inr h
 | succ n ih =>
  intro i env M hi hM h1 h2 h3 h4
  refine li_go hm l24_0.eq_1 ?_
  have hlt:i<g.ns.length:=by omega
  have hxi:=hx _ (List.getElem_mem hlt)
  have w1:IntKind.i64.wrap ((i:Int)+1)=((i+1:Nat):Int):=wrap_succ (by omega)
  have hnd:ndA g i=g.ns[i]:=by simp[ndA,hlt]
  rcases hM with ⟨rfl,rfl⟩ | ⟨hi0,hO⟩
  · simp -implicitDefEqProofs[h1,h3,h4,gbox,hlt,nds_at hlt,nds_min hlt,nds_ge hlt,sl,nodesV]
    refine⟨by omega,by omega,by omega,by omega,by omega,by omega,?_⟩
    refine ih 1 _ _ (by omega) (.inr ⟨by omega,⟨rfl,?_,fun j hj => ?_,fun j hj => ?_,fun j hj => ?_⟩⟩) ?_ ?_ ?_ ?_
    · simp[rws,oC,hnd,List.range_succ,r1P,Nat.add_assoc]
    · have:j=0:=by omega
      subst this; rw[hnd]; rfl
    · have:j=0:=by omega
      subst this; rw[hnd]; rfl
    · have:j=0:=by omega
      subst this; rw[hnd]; rfl
    · simp
    · simp[h2]
    · simp
    · simp; rfl
  · have e5:nodesV (H.length+9) i=.own (H.length+9) 0 i 6 i:=by unfold nodesV; rw[if_neg (by omega)]
    have e6:nodesV (H.length+9) (i+1)=.own (H.length+9) 0 (i+1) 6 (i+1):=by unfold nodesV; rw[if_neg (by omega)]
    rw[e5]
    have hM5:=hO.row
    have hml:=hO.len
    obtain⟨cs,hcs⟩:∃ cs,cs=rws (oC (H.length+4) (ndA g)) (List.range i):=⟨_,rfl⟩
    rw[←hcs]at hM5
    have hcl:cs.length=6*i:=by rw[hcs,rws_len oC_len]; simp; omega
    simp -implicitDefEqProofs[h1,h3,h4,gbox,hlt,nds_at hlt,nds_min hlt,nds_ge hlt,sl,setObj_old hM5,objIs_old hM5,objCells_set0,objCells_setk,len_addn]
    refine⟨by omega,by omega,by omega,by omega,by omega,by omega,by omega,by omega,by omega,?_⟩
    rw[w1]
    have hmlen:=getElem?_lt hM5
    have ge:∀ (o y w:AO) (t:Nat) (v:AO),[y,⟨ints g.ns[i].nx,3,2,true⟩,⟨ints g.ns[i].ws,3,2,true⟩,⟨ints g.ns[i].ps,3,2,true⟩,w][t]? = some v->(M.set 5 o++[y,⟨ints g.ns[i].nx,3,2,true⟩,⟨ints g.ns[i].ws,3,2,true⟩,⟨ints g.ns[i].ps,3,2,true⟩,w])[M.length+t]? = some v:=fun o y w t v h=>by
     rw[List.getElem?_append_right (by simp)]; simpa using h
    have old:∀ (o y w:AO) (p:Nat) (l:List Int),M[p]? = some (⟨ints l,3,2,true⟩:AO)->(M.set 5 o++[y,⟨ints g.ns[i].nx,3,2,true⟩,⟨ints g.ns[i].ws,3,2,true⟩,⟨ints g.ns[i].ps,3,2,true⟩,w])[p]? = some ⟨ints l,3,2,true⟩:=fun o y w p l h=>by
     have hp5:5≠p:=fun e=>by subst e; rw[hM5]at h; cases h
     rw[List.getElem?_append_left (by simpa using getElem?_lt h),List.getElem?_set_ne hp5]; exact h
    have hr:∀ t,M.length+1+t=r1P i+t:=fun t=>by unfold r1P; rw[if_neg (by omega)]; omega
    rw[←e6]
    refine ih (i+1) _ _ (by omega) (.inr ⟨by omega,⟨?_,?_,fun j hj => ?_,fun j hj => ?_,fun j hj => ?_⟩⟩) ?_ ?_ ?_ ?_
    · simp[hml]; omega
    · rw[List.getElem?_append_left (by simpa using hmlen),List.getElem?_set_self hmlen]
      have e7:r1P i=M.length+1:=by unfold r1P; rw[if_neg (by omega)]; omega
      rw[List.range_succ,rws_app,<- hcs]
      simp[rws,oC,hnd,e7]
      omega
    · by_cases e:j=i
      · subst e
        rw[hnd,<- Nat.add_zero (r1P j),<- hr 0,Nat.add_zero]
        exact ge _ _ _ 1 _ rfl
      · exact old _ _ _ _ _ (hO.n j (by omega))
    · by_cases e:j=i
      · subst e
        rw[hnd,<- hr 1]
        exact ge _ _ _ 2 _ rfl
      · exact old _ _ _ _ _ (hO.w j (by omega))
    · by_cases e:j=i
      · subst e
        rw[hnd,<- hr 2]
        exact ge _ _ _ 3 _ rfl
      · exact old _ _ _ _ _ (hO.p j (by omega))
    · simp
    · simp[h2]
    · simp
    · simp
set_option maxRecDepth 10000 in
theorem ok24k (h1:1≤g.ns.length) (hn:g.ns.length≤80) (hi:g.is.length≤80) (hx:∀ x∈g.ns,x.nx.length≤80∧x.ws.length≤80∧x.ps.length≤80) :
 OkP Try.prog 24 [.agg g.cells] H fun o H'=>∃ (B D:AO) (M:List AO),o=.ret (.agg [i64 g.pl,.own (H.length+9) 0 g.ns.length 6 g.ns.length,.own (H.length+2) 0 g.is.length 2 2])∧H'=H++gbox g::B::⟨infs g.is,45,2,true⟩::D::M∧OWM (H.length+4) (ndA g) g.ns.length M:=by
 refine okP_fn hm Try.func24 c24 (by simp) fun hcl => ?_
 simp -implicitDefEqProofs[i24,r24,Gm.cells,infs_len]
 have hinf:List.take (g.is.length*2) (infs g.is)=infs g.is:=List.take_of_length_le (by rw[infs_len]; omega)
 rw[hinf]
 refine⟨by omega,infs_cell _,by omega,by omega,rfl,?_⟩
 refine loop24k (g:=g) hn hx (fun env M hM h2 h3 => ?_) g.ns.length 0 _ [] (by omega) (.inl ⟨rfl,rfl⟩) (by simp) (by simp) (by simp) (by simp)
 have e:nodesV (H.length+9) g.ns.length=.own (H.length+9) 0 g.ns.length 6 g.ns.length:=by unfold nodesV; rw[if_neg (by omega)]
 rw[e]
 simp -implicitDefEqProofs[h2,h3,gbox]
 rcases hM with h0 | hM
 · omega
 · exact⟨_,_,⟨rfl,_,_,M,rfl,hM⟩,cv_idq rfl⟩
end
end Go.Proofs.Ytogjmpkehjfecaa.Rc
namespace Go.Proofs.Ytogjmpkehjfecaa.Rc
open Go.Ab Go.Ab.Shr
theorem rws_rset {f f':Nat->List SV} {sz i t:Nat} {v:SV} (hl:∀ x,(f x).length=sz) (h:∀ j,j≠i->f' j=f j) (hi:f' i=(f i).set t v) (ht:t<sz):∀ n,i<n->(rws f (List.range n)).set (i*sz+t) v=rws f' (List.range n):=by
 have base:∀ n,n≤i->rws f' (List.range n)=rws f (List.range n):=by
  intro n
  induction n with
  | zero=>intro _; rfl
  | succ n ih =>
   intro hn
   rw[List.range_succ,rws_app,rws_app,ih (by omega)]
   simp only[rws,h n (by omega)]
 intro n
 induction n with
 | zero=>intro h; omega
 | succ n ih =>
  intro hn
  rw[List.range_succ,rws_app,rws_app]
  have hln:(rws f (List.range n)).length=n*sz:=by rw[rws_len hl]; simp
  by_cases e:i=n
  · subst e
    rw[base i (Nat.le_refl _),List.set_append_right _ _ (by omega),hln,Nat.add_sub_cancel_left]
    simp only[rws,hi,List.append_nil]
  · have h1:i<n:=by omega
    have h2:i*sz+t<n*sz:=by
     have:=Nat.mul_le_mul_right sz (show i+1≤n by omega)
     rw[Nat.succ_mul]at this
     omega
    rw[List.set_append_left _ _ (by omega),ih h1]
    simp only[rws,h n (fun e'=>e e'.symm)]
theorem so_hit {X:List AO} {p:Nat} (h:p<X.length) (o:AO) (f:AO->AO):Ab.setObj (X.set p o) p f=X.set p (f o):=by
 rw[setObj_some (o:=o) (List.getElem?_set_self h),List.set_set]
section
variable {H X:List AO} {g:Gm} {nd:Nat->Nd} {is:List (Int×Int)}
structure LW (H:List AO) (g:Gm) (nd:Nat->Nd) (is:List (Int×Int)) (X:List AO):Prop where
 len:X.length=H.length+5*g.ns.length+7
 low:∀ j,j<H.length->X[j]? = H[j]?
 g5:X[H.length]? = some (gbox g)
 row:X[H.length+10]? = some ⟨rws (oC (H.length+5) nd) (List.range g.ns.length),59,g.ns.length,true⟩
 n:∀ j,j<g.ns.length->X[H.length+5+r1P j]? = some ⟨ints (nd j).nx,3,2,true⟩
 w:∀ j,j<g.ns.length->X[H.length+5+(r1P j+1)]? = some ⟨ints (nd j).ws,3,2,true⟩
 p:∀ j,j<g.ns.length->X[H.length+5+(r1P j+2)]? = some ⟨ints (nd j).ps,3,2,true⟩
 inf:X[H.length+3]? = some ⟨infs is,45,2,true⟩
 t6:X[H.length+5*g.ns.length+6]? = some ⟨[i64 g.pl,.own (H.length+10) 0 g.ns.length 6 g.ns.length,.own (H.length+3) 0 g.is.length 2 2],25,0,true⟩
def ndS (g:Gm) (i j:Nat):Nd:=if j<i then(ndA g j).sw else ndA g j
theorem ndS_self (i:Nat):ndS g i i=ndA g i:=by simp[ndS]
theorem ndS_suc (i:Nat):ndS g (i+1) i=(ndA g i).sw:=by simp[ndS]
theorem ndS_ne {i j:Nat} (h:j≠i):ndS g (i+1) j=ndS g i j:=by
 unfold ndS
 by_cases h1:j<i
 · rw[if_pos h1,if_pos (by omega)]
 · rw[if_neg h1,if_neg (by omega)]
theorem r1_inj {i j:Nat} (h:r1P i+2=r1P j+2∨r1P i+2=r1P j+1∨r1P i+2=r1P j∨r1P i+2=5):i=j∧r1P i+2=r1P j+2:=by
 unfold r1P at *
 split at h<;>split at h<;>(try split)<;>(try split)<;>omega
theorem LW.mv {i:Nat} (h:LW H g (ndS g i) is X) (hi:i<g.ns.length) (hk:(ndA g i).k=2) :
 LW H g (ndS g (i+1)) is (X.set (H.length+10) ⟨(rws (oC (H.length+5) (ndS g i)) (List.range g.ns.length)).set (i*6+1) (i64 (1-(ndA g i).p)),59,g.ns.length,true⟩):=by
 have hlt:=getElem?_lt h.row
 have h3:∀ (q:Nat) (c:List SV),X[q]? = some ⟨c,3,2,true⟩->H.length+10≠q:=fun q c hq e=>by
  subst e; rw[h.row]at hq; cases hq
 have enx:∀ j,(ndS g (i+1) j).nx=(ndS g i j).nx:=fun j=>by
  by_cases e:j=i
  · subst e; rw[ndS_suc,ndS_self]; rfl
  · rw[ndS_ne e]
 have ews:∀ j,(ndS g (i+1) j).ws=(ndS g i j).ws:=fun j=>by
  by_cases e:j=i
  · subst e; rw[ndS_suc,ndS_self]; rfl
  · rw[ndS_ne e]
 have eps:∀ j,(ndS g (i+1) j).ps=(ndS g i j).ps:=fun j=>by
  by_cases e:j=i
  · subst e; rw[ndS_suc,ndS_self]; simp[Nd.sw,hk]
  · rw[ndS_ne e]
 refine⟨by rw[List.length_set]; exact h.len,fun j hj => ?_,?_,?_,fun j hj => ?_,fun j hj => ?_,fun j hj => ?_,?_,?_⟩
 · rw[List.getElem?_set_ne (by omega)]; exact h.low j hj
 · rw[List.getElem?_set_ne (by omega)]; exact h.g5
 · rw[List.getElem?_set_self hlt,rws_rset (f':=oC (H.length+5) (ndS g (i+1))) oC_len (h:=fun j hj=>by simp only[oC,ndS_ne hj]) (hi:=by
    simp only[oC,enx,ews,eps]
    rw[ndS_suc,ndS_self]
    simp[Nd.sw,hk]) (by omega) _ hi]
 · have:=h.n j hj
   rw[List.getElem?_set_ne (h3 _ _ this),enx]; exact this
 · have:=h.w j hj
   rw[List.getElem?_set_ne (h3 _ _ this),ews]; exact this
 · have:=h.p j hj
   rw[List.getElem?_set_ne (h3 _ _ this),eps]; exact this
 · rw[List.getElem?_set_ne (by omega)]; exact h.inf
 · rw[List.getElem?_set_ne (by omega)]; exact h.t6
theorem LW.en {i:Nat} (h:LW H g (ndS g i) is X) (hi:i<g.ns.length) (hk:(ndA g i).k=3) (hp:(ndA g i).ps.length=2) :
 LW H g (ndS g (i+1)) is (X.set (H.length+5+(r1P i+2)) ⟨ints [(ndA g i).ps.getD 1 0,(ndA g i).ps.getD 0 0],3,2,true⟩):=by
 have hlt:=getElem?_lt (h.p i hi)
 have hr:1≤r1P i:=by unfold r1P; split<;>omega
 have h59:∀ (q:Nat) (o:AO),X[q]? = some o->o.ty≠3->H.length+5+(r1P i+2)≠q:=fun q o hq ho e=>by
  subst e; rw[h.p i hi]at hq; cases hq; exact ho rfl
 have enx:∀ j,(ndS g (i+1) j).nx=(ndS g i j).nx:=fun j=>by
  by_cases e:j=i
  · subst e; rw[ndS_suc,ndS_self]; rfl
  · rw[ndS_ne e]
 have ews:∀ j,(ndS g (i+1) j).ws=(ndS g i j).ws:=fun j=>by
  by_cases e:j=i
  · subst e; rw[ndS_suc,ndS_self]; rfl
  · rw[ndS_ne e]
 refine⟨by rw[List.length_set]; exact h.len,fun j hj => ?_,?_,?_,fun j hj => ?_,fun j hj => ?_,fun j hj => ?_,?_,?_⟩
 · rw[List.getElem?_set_ne (by omega)]; exact h.low j hj
 · rw[List.getElem?_set_ne (by omega)]; exact h.g5
 · rw[List.getElem?_set_ne (h59 _ _ h.row (by simp)),h.row]
   have e:rws (oC (H.length+5) (ndS g (i+1))) (List.range g.ns.length)=rws (oC (H.length+5) (ndS g i)) (List.range g.ns.length):=by
    congr 1
    funext j
    by_cases e:j=i
    · subst e
      simp[oC,ndS_suc,ndS_self,Nd.sw,hk,hp]
    · simp only[oC,ndS_ne e]
   rw[e]
 · rw[List.getElem?_set_ne,enx]
   · exact h.n j hj
   · intro e
     have:=(r1_inj (i:=i) (j:=j) (.inr (.inr (.inl (by omega))))).2
     omega
 · rw[List.getElem?_set_ne,ews]
   · exact h.w j hj
   · intro e
     have:=(r1_inj (i:=i) (j:=j) (.inr (.inl (by omega)))).2
     omega
 · by_cases e:j=i
   · subst e
     rw[List.getElem?_set_self hlt,ndS_suc]
     simp[Nd.sw,hk]
   · rw[List.getElem?_set_ne,ndS_ne e]
     · exact h.p j hj
     · intro e'
       exact e (r1_inj (i:=i) (j:=j) (.inl (by omega))).1.symm
 · rw[List.getElem?_set_ne (by omega)]; exact h.inf
 · rw[List.getElem?_set_ne (h59 _ _ h.t6 (by simp))]; exact h.t6
set_option maxRecDepth 10000 in
theorem nlp5_0 (hsw:∀ i,i<g.ns.length->(ndA g i).k=3->(ndA g i).ps.length=2) (hp2:∀ i,i<g.ns.length->(ndA g i).k=2->0≤(ndA g i).p∧(ndA g i).p<1000) (hn:g.ns.length≤1000) {N:Nat} {K:XE->Env->List AO->Prop} {x1:SV}
 (hexit:∀ env X,LW H g (ndS g g.ns.length) is X->env.get 1=x1->env.get 5=.ptr (.own H.length 0 0 0 0) 0->env.get 6=.ptr (.own (H.length+5*g.ns.length+6) 0 0 0 0) 0->K (.exit 0) env X) :
 ∀ (m i:Nat) (env:Env) (X:List AO),i+m=g.ns.length->LW H g (ndS g i) is X->env.get 1=x1->env.get 5=.ptr (.own H.length 0 0 0 0) 0->env.get 6=.ptr (.own (H.length+5*g.ns.length+6) 0 0 0 0) 0->env.get 7=i64 i →
  LI Try.prog N drawB l5_0 env X K:=by
 intro m
 induction m with
 | zero =>
  intro i env X hi h h1 h5 h6 h7
  refine li_go hm l5_0.eq_1 ?_
  have e:i=g.ns.length:=by omega
  subst e
  have ht:=oc0 h.t6
  simp -implicitDefEqProofs[h1,h5,h6,h7,ht]
  exact hexit _ X h (by simp[h1]) (by simp[h5]) (by simp[h6])
 | succ m ih =>
  intro i env X hi h h1 h5 h6 h7
  refine li_go hm l5_0.eq_1 ?_
  have hlt:i<g.ns.length:=by omega
  have ht:=oc0 h.t6
  have hr:=oc0 h.row
  have hst:=setObj_some h.row
  have hlr:i<(List.range g.ns.length).length:=by simpa using hlt
  have d:=rws_at (oC_len (b:=H.length+5) (nd:=ndS g i)) hlr
  have d0:=rws_get (oC_len (b:=H.length+5) (nd:=ndS g i)) (t:=0) hlr (by omega)
  have d1:=rws_get (oC_len (b:=H.length+5) (nd:=ndS g i)) (t:=1) hlr (by omega)
  have d5:=rws_get (oC_len (b:=H.length+5) (nd:=ndS g i)) (t:=5) hlr (by omega)
  simp only[List.getElem_range,oC,ndS_self,List.getElem?_cons_zero,List.getElem?_cons_succ,Nat.add_zero]at d0 d1 d5
  have hln:(rws (oC (H.length+5) (ndS g i)) (List.range g.ns.length)).length=g.ns.length*6:=by rw[rws_len oC_len]; simp
  have hmv:=h.mv hlt
  have hen:=h.en hlt
  have w1:=wrap_suc (show i<9223372036854775807 by omega)
  have hpp:=hp2 i hlt
  have hpr:=oc0 (h.p i hlt)
  have hps:=setObj_some (h.p i hlt)
  rw[ndS_self]at hpr hps
  generalize rws (oC (H.length+5) (ndS g i)) (List.range g.ns.length)=cs at *
  have e0:∀ h,cs[i*6]'h=i64 (ndA g i).k:=fun h=>by rw[List.getElem?_eq_getElem h]at d0; simpa using d0
  have e1:∀ h,cs[i*6+1]'h=i64 (ndA g i).p:=fun h=>by rw[List.getElem?_eq_getElem h]at d1; simpa using d1
  have e5:∀ h,cs[i*6+5]'h=.own (H.length+5+(r1P i+2)) 0 (ndA g i).ps.length 1 2:=fun h=>by rw[List.getElem?_eq_getElem h]at d5; simpa using d5
  have g0:cs[i*6]?.getD .any=i64 (ndA g i).k:=by rw[d0]; rfl
  have g1:cs[i*6+1]?.getD .any=i64 (ndA g i).p:=by rw[d1]; rfl
  have g5:cs[i*6+5]?.getD .any=.own (H.length+5+(r1P i+2)) 0 (ndA g i).ps.length 1 2:=by rw[d5]; rfl
  by_cases h2:(ndA g i).k=2
  · have hpi:=hpp h2
    have w2:IntKind.i64.wrap (1-(ndA g i).p)=1-(ndA g i).p:=wrap_id (by omega) (by omega)
    have hset:List.take (i*6+1) cs++i64 (1-(ndA g i).p)::List.drop (i*6+1+1) cs=cs.set (i*6+1) (i64 (1-(ndA g i).p)):=by
     rw[List.set_eq_take_append_cons_drop,if_pos (by omega)]
    have f0:∀ h,(cs.set (i*6+1) (i64 (1-(ndA g i).p)))[i*6]'h=i64 (ndA g i).k:=fun h=>by
     rw[List.getElem_set_ne (by omega)]; exact e0 _
    have f1:(cs.set (i*6+1) (i64 (1-(ndA g i).p)))[i*6]?.getD .any=i64 (ndA g i).k:=by
     rw[List.getElem?_set_ne (by omega)]; exact g0
    have fl:(cs.set (i*6+1) (i64 (1-(ndA g i).p))).length=g.ns.length*6:=by rw[List.length_set]; exact hln
    have hmv2:=hmv h2
    generalize cs.set (i*6+1) (i64 (1-(ndA g i).p))=cs' at *
    have hlx:=getElem?_lt h.row
    simp -implicitDefEqProofs[h1,h5,h6,h7,ht,hlt,hr,e0,e1,g0,g1,hln,h2,hst,w2,hset,objCells_hit hlx,f0,f1,fl]
    repeat (refine⟨by omega,?_⟩)
    refine ih (i+1) _ _ (by omega) hmv2 ?_ ?_ ?_ ?_
    · simp
    · simp
    · simp
    · simp[w1]
  · by_cases h3:(ndA g i).k=3
    · have hp:=hsw i hlt h3
      obtain⟨pa,pb,hpab⟩:∃ pa pb,(ndA g i).ps=[pa,pb]:=by
       match hh:(ndA g i).ps,hp with
       | [a,b],_=>exact⟨a,b,rfl⟩
      have hen2:=hen h3 hp
      rw[hpab]at hpr hps e5 g5 hen2
      have hlx:=getElem?_lt (h.p i hlt)
      have ei:ints [pa,pb]=[i64 pa,i64 pb]:=rfl
      rw[ei]at hpr hps
      have ei2:ints [[pa,pb].getD 1 0,[pa,pb].getD 0 0]=[i64 pb,i64 pa]:=rfl
      rw[ei2]at hen2
      simp -implicitDefEqProofs[h1,h5,h6,h7,ht,hlt,hr,e0,e1,e5,g0,g1,g5,hln,h2,h3,hpr,hps,objCells_hit hlx,so_hit hlx]
      repeat (refine⟨by omega,?_⟩)
      refine ih (i+1) _ _ (by omega) hen2 ?_ ?_ ?_ ?_
      · simp
      · simp
      · simp
      · simp[w1]
    · simp -implicitDefEqProofs[h1,h5,h6,h7,ht,hlt,hr,e0,e1,hln,h2,h3]
      repeat (refine⟨by omega,?_⟩)
      refine ih (i+1) _ _ (by omega) ?_ ?_ ?_ ?_ ?_
      · have e:∀ j,ndS g (i+1) j=ndS g i j:=fun j=>by
         by_cases e:j=i
         · subst e; rw[ndS_suc,ndS_self]; simp[Nd.sw,h2,h3]
         · exact ndS_ne e
        rw[show ndS g (i+1)=ndS g i from funext e]; exact h
      · simp
      · simp
      · simp
      · simp[w1]
def isS (g:Gm) (i:Nat):List (Int×Int):=(List.range g.is.length).map fun j=>if j<i then(1-(g.is.getD j (0,0)).1,(g.is.getD j (0,0)).2)else g.is.getD j (0,0)
theorem isS_len (i:Nat):(isS g i).length=g.is.length:=by simp[isS]
theorem isS_0:isS g 0=g.is:=by
 apply List.ext_getElem?
 intro j
 by_cases h:j<g.is.length
 · simp[isS,h]
 · simp[isS,h]
theorem isS_all:isS g g.is.length=g.sw.is:=by
 apply List.ext_getElem?
 intro j
 by_cases h:j<g.is.length
 · simp[isS,Gm.sw,h]
 · simp[isS,Gm.sw,h]
theorem isS_at {i:Nat} (h:i<g.is.length):(isS g i)[i]? = some g.is[i]:=by simp[isS,h]
theorem isS_suc {i:Nat} (h:i<g.is.length):isS g (i+1)=(isS g i).set i (1-g.is[i].1,g.is[i].2):=by
 apply List.ext_getElem?
 intro j
 by_cases e:i=j
 · subst e
   rw[List.getElem?_set_self (by rw[isS_len]; exact h)]
   simp[isS,h]
 · rw[List.getElem?_set_ne e]
   by_cases hj:j<g.is.length
   · simp only[isS,List.getElem?_map,List.getElem?_range hj,Option.map_some]
     by_cases h1:j<i
     · rw[if_pos h1,if_pos (by omega)]
     · rw[if_neg h1,if_neg (by omega)]
   · simp[isS,hj]
theorem infs_setS:∀ {l:List (Int×Int)} {i:Nat} (h:i<l.length) (v:Int),(infs l).set (i*2) (i64 v)=infs (l.set i (v,l[i].2))
 | [],i,h,v=>by simp at h
 | x::r,0,h,v=>by simp[infs]
 | x::r,i+1,h,v=>by
  have:=infs_setS (l:=r) (i:=i) (by simpa using h) v
  rw[show(i+1)*2=i*2+2 by omega]
  simp only[infs,List.set_cons_succ,this,List.getElem_cons_succ]
theorem LW.iw (h:LW H g nd is X) (is':List (Int×Int)):LW H g nd is' (X.set (H.length+3) ⟨infs is',45,2,true⟩):=by
 have hlt:=getElem?_lt h.inf
 have h3:∀ (q:Nat) (o:AO),X[q]? = some o->o.ty≠45->H.length+3≠q:=fun q o hq ho e=>by
  subst e; rw[h.inf]at hq; cases hq; exact ho rfl
 refine⟨by rw[List.length_set]; exact h.len,fun j hj => ?_,?_,?_,fun j hj => ?_,fun j hj => ?_,fun j hj => ?_,?_,?_⟩
 · rw[List.getElem?_set_ne (by omega)]; exact h.low j hj
 · rw[List.getElem?_set_ne (by omega)]; exact h.g5
 · rw[List.getElem?_set_ne (by omega)]; exact h.row
 · rw[List.getElem?_set_ne (h3 _ _ (h.n j hj) (by simp))]; exact h.n j hj
 · rw[List.getElem?_set_ne (h3 _ _ (h.w j hj) (by simp))]; exact h.w j hj
 · rw[List.getElem?_set_ne (h3 _ _ (h.p j hj) (by simp))]; exact h.p j hj
 · rw[List.getElem?_set_self hlt]
 · rw[List.getElem?_set_ne (by omega)]; exact h.t6
set_option maxRecDepth 10000 in
theorem nlp5_1 (hir:∀ q∈g.is,0≤q.1∧q.1<1000) (hn:g.is.length≤1000) {N:Nat} {K:XE->Env->List AO->Prop} {x1:SV}
 (hexit:∀ env X,LW H g nd (isS g g.is.length) X->env.get 1=x1->env.get 5=.ptr (.own H.length 0 0 0 0) 0->env.get 6=.ptr (.own (H.length+5*g.ns.length+6) 0 0 0 0) 0->env.get 9=i64 g.is.length->LI Try.prog N drawB l5_1 env X K) :
 ∀ (m i:Nat) (env:Env) (X:List AO),i+m=g.is.length->LW H g nd (isS g i) X->env.get 1=x1->env.get 5=.ptr (.own H.length 0 0 0 0) 0->env.get 6=.ptr (.own (H.length+5*g.ns.length+6) 0 0 0 0) 0->env.get 9=i64 i →
  LI Try.prog N drawB l5_1 env X K:=by
 intro m
 induction m with
 | zero =>
  intro i env X hi h h1 h5 h6 h9
  have e:i=g.is.length:=by omega
  subst e
  exact hexit env X h h1 h5 h6 h9
 | succ m ih =>
  intro i env X hi h h1 h5 h6 h9
  refine li_go hm l5_1.eq_1 ?_
  have hlt:i<g.is.length:=by omega
  have ht:=oc0 h.t6
  have hr:=oc0 h.inf
  have hst:=setObj_some h.inf
  have hL:i<(isS g i).length:=by rw[isS_len]; exact hlt
  have hLi:(isS g i)[i]=g.is[i]:=by
   have:=isS_at hlt
   rw[List.getElem?_eq_getElem hL]at this
   simpa using this
  have i1:(infs (isS g i))[i*2]?.getD .any=i64 g.is[i].1:=by
   have:=infs_drop hL
   rw[show i*2=2*i+0 by omega,<- List.getElem?_drop,this,hLi]; rfl
  have i0:∀ h,(infs (isS g i))[i*2]'h=i64 g.is[i].1:=fun h=>by
   have:=i1
   rw[List.getElem?_eq_getElem h]at this
   simpa using this
  have i3:(infs (isS g i)).length=2*g.is.length:=by rw[infs_len,isS_len]
  have hq:=hir _ (List.getElem_mem hlt)
  have w2:IntKind.i64.wrap (1-g.is[i].1)=1-g.is[i].1:=wrap_id (by omega) (by omega)
  have hset:List.take (i*2) (infs (isS g i))++i64 (1-g.is[i].1)::List.drop (i*2+1) (infs (isS g i))=infs (isS g (i+1)):=by
   rw[isS_suc hlt,<- hLi,<- infs_setS hL,List.set_eq_take_append_cons_drop,if_pos (by omega)]
  have hiw:=h.iw (isS g (i+1))
  have w1:=wrap_suc (show i<9223372036854775807 by omega)
  generalize infs (isS g i)=cs at *
  simp -implicitDefEqProofs[h1,h5,h6,h9,ht,hlt,hr,i1,i0,i3,w2,hset,hst]
  repeat (refine⟨by omega,?_⟩)
  refine ih (i+1) _ _ (by omega) hiw ?_ ?_ ?_ ?_
  · simp
  · simp
  · simp
  · simp[w1]
theorem rws_congr {f f':Nat->List SV}:∀ {l:List Nat},(∀ x∈l,f x=f' x)->rws f l=rws f' l
 | [],_=>rfl
 | x::r,h=>by
  simp only[rws]
  rw[h x (by simp),rws_congr fun y hy=>h y (List.mem_cons_of_mem _ hy)]
theorem rws_map {α β:Type} (f:β->List SV) (k:α->β):∀ l:List α,rws f (l.map k)=rws (fun x=>f (k x)) l
 | []=>rfl
 | x::r=>by simp only[List.map_cons,rws,rws_map f k r]
theorem map_rws {α:Type} (f:α->List SV) (k:SV->SV):∀ l:List α,(rws f l).map k=rws (fun x=>(f x).map k) l
 | []=>rfl
 | x::r=>by simp only[rws,List.map_append,map_rws f k r]
theorem sw_ns:g.sw.ns=(List.range g.ns.length).map (ndS g g.ns.length):=by
 apply List.ext_getElem?
 intro j
 by_cases h:j<g.ns.length
 · simp[Gm.sw,h,ndS,ndA]
 · simp[Gm.sw,h]
theorem LW.fz6 (h:LW H g (ndS g g.ns.length) g.sw.is X):SV.fz (H.length+1) [] (X.drop (H.length+1)) 5 (.ptr (.own (H.length+5*g.ns.length+6) 0 0 0 0) 0)=.ptr (.slc g.sw.cells 0) 0:=by
 have hd:∀ k,(X.drop (H.length+1))[k]? = X[H.length+1+k]? := fun k=>by rw[List.getElem?_drop]
 have k6:(X.drop (H.length+1))[5*g.ns.length+5]? = some ⟨[i64 g.pl,.own (H.length+10) 0 g.ns.length 6 g.ns.length,.own (H.length+3) 0 g.is.length 2 2],25,0,true⟩:=by
  rw[hd,<- h.t6]; congr 1; omega
 have kr:(X.drop (H.length+1))[9]? = some ⟨rws (oC (H.length+5) (ndS g g.ns.length)) (List.range g.ns.length),59,g.ns.length,true⟩:=by
  rw[hd,<- h.row]
 have ki:(X.drop (H.length+1))[2]? = some ⟨infs g.sw.is,45,2,true⟩:=by
  rw[hd,<- h.inf]
 have kn:∀ j,j<g.ns.length->(X.drop (H.length+1))[4+r1P j]? = some ⟨ints (ndS g g.ns.length j).nx,3,2,true⟩:=fun j hj=>by
  rw[hd,<- h.n j hj]; congr 1; omega
 have kw:∀ j,j<g.ns.length->(X.drop (H.length+1))[4+(r1P j+1)]? = some ⟨ints (ndS g g.ns.length j).ws,3,2,true⟩:=fun j hj=>by
  rw[hd,<- h.w j hj]; congr 1; omega
 have kp:∀ j,j<g.ns.length->(X.drop (H.length+1))[4+(r1P j+2)]? = some ⟨ints (ndS g g.ns.length j).ps,3,2,true⟩:=fun j hj=>by
  rw[hd,<- h.p j hj]; congr 1; omega
 generalize X.drop (H.length+1)=L at *
 have hrow:(rws (oC (H.length+5) (ndS g g.ns.length)) (List.range g.ns.length)).map (SV.fz (H.length+1) [] L 3)=nds g.sw.ns:=by
  rw[nds_rws,sw_ns,map_rws,rws_map]
  refine rws_congr fun j hj => ?_
  have hj:j<g.ns.length:=List.mem_range.1 hj
  have p1:H.length+5+r1P j=H.length+1+(4+r1P j):=by omega
  have p2:H.length+5+(r1P j+1)=H.length+1+(4+(r1P j+1)):=by omega
  have p3:H.length+5+(r1P j+2)=H.length+1+(4+(r1P j+2)):=by omega
  simp only[oC,p1,p2,p3,List.map_cons,List.map_nil,fz_own,kn j hj,kw j hj,kp j hj,placeOf,fz_i64,Nd.cells,sl]
  simp
 have hlr:(rws (oC (H.length+5) (ndS g g.ns.length)) (List.range g.ns.length)).length=g.ns.length*6:=by rw[rws_len oC_len]; simp
 rw[show H.length+5*g.ns.length+6=H.length+1+(5*g.ns.length+5)by omega,fz_ptr,k6]
 rw[show H.length+10=H.length+1+9 by omega,show H.length+3=H.length+1+2 by omega]
 simp only[List.drop_zero,List.map_cons,List.map_nil,fz_own,kr,ki,placeOf,fz_i64]
 have e1:List.take (g.ns.length*6) (nds g.sw.ns)=nds g.sw.ns:=List.take_of_length_le (by rw[nds_len,sw_len]; omega)
 have e2:List.take (g.is.length*2) (infs g.sw.is)=infs g.sw.is:=List.take_of_length_le (by rw[infs_len,sw_il]; omega)
 simp[Gm.cells,hrow,e1,e2,sw_len,sw_il]
 exact⟨rfl,by rw[hlr]; exact Nat.le_refl _,by rw[infs_len,sw_il]; omega⟩
end
end Go.Proofs.Ytogjmpkehjfecaa.Rc
namespace Go.Proofs.Ytogjmpkehjfecaa.Rc
open Go.Ab Go.Ab.Shr
section
variable {H:List AO} {g:Gm}
theorem ok15 (t:Tin):Ok Try.prog 15 [.agg g.cells,.agg t.cells] H (.ret (.tup [.agg (runR g t 1).1.cells,i64 (runR g t 1).2])) H:=by
 refine ok_fn hm Try.func15 c15 (by simp[Gm.cells,nds_under,infs_under,Tin.cells,sls_under]) fun hcl => ?_
 have h8:=fun H=>ok8 (H:=H) (g:=g) t 1 (by omega)
 simp only[Gm.cells,Tin.cells]at h8
 simp -implicitDefEqProofs[i15,r15,Gm.cells,Tin.cells]
 refine call_go (h8 _) ?_
 simp -implicitDefEqProofs
 exact cv_fz 3 hcl rfl (fz_under (by simp[SV.under,sls_under]))
end
end Go.Proofs.Ytogjmpkehjfecaa.Rc
namespace Go.Proofs.Ytogjmpkehjfecaa.Rc
open Go.Ab Go.Ab.Shr
structure ZW (g:Gm) (H:List AO) (t:Tin) (A:Nat->List Int) (q:List Int) (X:List AO):Prop where
 tb:X[H.length+1]? = some (tB t)
 oo:X[H.length+3]? = some ⟨outs g.is.length (pB (H.length+2)) g.acts 0,36,0,true⟩
 r:∀ i,i<g.is.length->X[pB (H.length+2) i]? = some ⟨ints (A i),3,0,true⟩
 od:X[H.length+4+2*g.is.length]? = some ⟨ints q,71,0,true⟩
 l:∀ i,i<g.is.length->(A i).length=g.acts i
 lq:q.length=10
 low:∀ j,j<H.length->X[j]? = H[j]?
section
variable {H X:List AO} {g:Gm} {t:Tin} {A:Nat->List Int} {q:List Int}
theorem ZW.sh (hW:Wg g) (h:ZW g H t A q X) {j:Nat} (hj:j<g.is.length) {l:List Int} (hl:ShO l) (hll:l.length=g.acts j) :
 ∃ X',Ok Try.prog 38 [sl l,.own (pB (H.length+2) j) 0 (g.acts j) 1 0,.own (H.length+4+2*g.is.length) 0 (g.acts j) 1 0] X (.ret (.tup [])) X'∧ZW g H t (upA A j (shrI l)) (((ordI l).map fun(n:Nat)=>(n:Int))++q.drop l.length) X':=by
 have hac:=acts_le hW hj
 have hlA:=h.l j hj
 have hlq:=h.lq
 have hne:pB (H.length+2) j≠H.length+4+2*g.is.length:=by unfold pB; omega
 have hP:P2 X (pB (H.length+2) j) (H.length+4+2*g.is.length):=⟨getElem?_lt (h.r j hj),getElem?_lt h.od,hne⟩
 have hG:G2 X (pB (H.length+2) j) (H.length+4+2*g.is.length) ⟨ints (A j),3,0,true⟩ (oI [] (q.take (g.acts j)) (ints (q.drop (g.acts j))) 71 0)=X:=by
  refine g2_same (h.r j hj) ?_
  rw[h.od]
  have e:ints q=ints (q.take (g.acts j))++ints (q.drop (g.acts j)):=by
   simp only[ints,<- List.map_append,List.take_append_drop]
  unfold oI
  rw[List.nil_append,<- e]
 obtain⟨a1,a2,a3⟩:=hl
 have key:=ok38 (H:=X) (a:=pB (H.length+2) j) (k:=H.length+4+2*g.is.length) (va:=0) (v:=0) (T:=71) (C:=[]) (D:=ints (q.drop (g.acts j))) (x:=sl l) (l:=l) (o0:=A j) (p0:=q.take (g.acts j)) hP ⟨rfl,by simp⟩ (fun o p L=>isl _ l) a1 a2 a3 (by rw[hlA,hll]) (by rw[List.length_take,hll]; omega)
 rw[hG,hll]at key
 refine⟨_,key,?_⟩
 have e:oN [] (ordI l) (ints (q.drop (g.acts j))) 71 0=⟨ints (((ordI l).map fun(n:Nat)=>(n:Int))++q.drop l.length),71,0,true⟩:=by
  rw[hll]
  simp[oN,nats,ints]
 rw[e]
 have ne:∀ {k:Nat} {x:Option AO},pB (H.length+2) j≠k->H.length+4+2*g.is.length≠k->X[k]? = x->(G2 X (pB (H.length+2) j) (H.length+4+2*g.is.length) ⟨ints (shrI l),3,0,true⟩ ⟨ints (((ordI l).map fun(n:Nat)=>(n:Int))++q.drop l.length),71,0,true⟩)[k]? = x:=fun hn hn2 hx=>by unfold G2; rw[List.getElem?_set_ne hn2,List.getElem?_set_ne hn]; exact hx
 refine⟨ne (by unfold pB; omega) (by omega) h.tb,ne (by unfold pB; omega) (by omega) h.oo,fun i hi => ?_,?_,fun i hi => ?_,?_,fun i hi => ?_⟩
 · by_cases e2:i=j
   · subst e2
     have:=g2_a (L:=[]) (getElem?_lt (h.r i hi)) hne (o:=⟨ints (shrI l),3,0,true⟩) (p:=⟨ints (((ordI l).map fun(n:Nat)=>(n:Int))++q.drop l.length),71,0,true⟩)
     rw[List.append_nil]at this
     rw[this]; simp[upA]
   · rw[ne (x:=X[pB (H.length+2) i]?) (by unfold pB; omega) (by unfold pB; omega) rfl,h.r i hi]
     simp[upA,e2]
 · have:=g2_k (L:=[]) (a:=pB (H.length+2) j) (getElem?_lt h.od) (o:=⟨ints (shrI l),3,0,true⟩) (p:=⟨ints (((ordI l).map fun(n:Nat)=>(n:Int))++q.drop l.length),71,0,true⟩)
   rw[List.append_nil]at this
   exact this
 · unfold upA; split
   · rename_i e2; rw[e2,shr_len]; exact hll
   · exact h.l i hi
 · simp[ord_len]; omega
 · exact ne (by unfold pB; omega) (by omega) (h.low i hi)
def shA (g:Gm) (L:List (List Int)):Nat->Nat->List Int
 | 0=>zersA g
 | i+1=>upA (shA g L i) i (shrI (L.getD i []))
def sqA (L:List (List Int)):Nat->List Int
 | 0=>zers 10
 | i+1=>((ordI (L.getD i [])).map fun(n:Nat)=>(n:Int))++(sqA L i).drop (L.getD i []).length
set_option maxRecDepth 10000 in
theorem tlp14_0 (hW:Wg g) (hT:TinOk g t) (hS:∀ l∈t.A,ShO l) {N:Nat} {K:XE->Env->List AO->Prop}
 (hexit:∀ env X,ZW g H t (shA g t.A g.is.length) (sqA t.A g.is.length) X->env.get 7=.own (H.length+3) 0 g.is.length 1 0->K (.exit 0) env X) :
 ∀ (m i:Nat) (X:List AO) (env:Env),i+m=g.is.length->ZW g H t (shA g t.A i) (sqA t.A i) X->env.get 3=.ptr (.own (H.length+1) 0 0 0 0) 0->env.get 7=.own (H.length+3) 0 g.is.length 1 0->env.get 8=.ptr (.own (H.length+4+2*g.is.length) 0 0 0 0) 0->env.get 19=.own (H.length+3) 0 g.is.length 1 0->env.get 20=i64 g.is.length->env.get 21=i64 i →
  LI Try.prog N drawB l14_0 env X K:=by
 have hil:=hW.gd.i
 intro m
 induction m with
 | zero =>
  intro i X env hi h h3 h7 h8 h19 h20 h21
  refine li_go hm l14_0.eq_1 ?_
  have e:i=g.is.length:=by omega
  subst e
  simp -implicitDefEqProofs[h20,h21]
  exact hexit _ X h (by simp[h7])
 | succ m ih =>
  intro i X env hi h h3 h7 h8 h19 h20 h21
  refine li_go hm l14_0.eq_1 ?_
  have hii:i<g.is.length:=by omega
  obtain⟨n1,n2⟩:=acts_le hW hii
  have w1:=wrap_suc (show i<9223372036854775807 by omega)
  have hiA:i<t.A.length:=by rw[hT.la]; exact hii
  have lA:=hT.a i hiA
  obtain⟨X',k1,k2⟩:=h.sh hW hii (hS _ (List.getElem_mem hiA)) lA
  have eA:upA (shA g t.A i) i (shrI t.A[i])=shA g t.A (i+1):=by simp[shA,hiA]
  have eQ:((ordI t.A[i]).map fun(n:Nat)=>(n:Int))++(sqA t.A i).drop t.A[i].length=sqA t.A (i+1):=by simp[sqA,hiA]
  rw[eA,eQ]at k2
  have hTb:=oc_at h.tb []
  have hOo:=oc_at h.oo []
  have hOd:=oc_at h.od []
  simp only[List.append_nil]at hTb hOo hOd
  have hq:=h.lq
  have hca:SV.cutA 1 0 (g.acts i) (.ptr (.own (H.length+4+2*g.is.length) 0 0 0 0) 0)=.own (H.length+4+2*g.is.length) 0 (g.acts i) 1 0:=by simp[SV.cutA]
  simp -implicitDefEqProofs[h3,h7,h8,h19,h20,h21,hTb,hOo,hOd,tB,Tin.cells,hii,hiA,sls_get hiA,hca]
  refine⟨by omega,by omega,⟨by omega,by omega⟩,call_go k1 ?_⟩
  simp -implicitDefEqProofs[h3,h7,h8,h19,h20,h21,w1]
  exact ih (i+1) _ _ (by omega) k2 (by simp[h3]) (by simp[h7]) (by simp[h8]) (by simp[h19]) (by simp[h20]) (by simp)
theorem shA_at {L:List (List Int)}:∀ (n j:Nat),j<n->shA g L n j=shrI (L.getD j [])
 | 0,j,h=>absurd h (by omega)
 | n+1,j,h=>by
  simp only[shA,upA]
  by_cases e:j=n
  · rw[if_pos e,e]
  · rw[if_neg e]; exact shA_at n j (by omega)
theorem ok14 (hW:Wg g) (hc:chkS g t=0) (hT:TinOk g t) (hS:∀ l∈t.A,ShO l):Ok Try.prog 14 [.agg g.cells,.agg t.cells] H (.ret (.tup [.slc (sls ((List.range g.is.length).map fun j=>shrI (t.A.getD j []))) g.is.length,i64 0])) H:=by
 refine ok_fn hm Try.func14 c14 (by simp[Gm.cells,nds_under,infs_under,Tin.cells,sls_under]) fun hcl => ?_
 have h16:=fun H=>ok16 (H:=H) (g:=g) (t:=t)
 have h37:=fun H=>ok37 (H:=H) hW
 simp only[Gm.cells,Tin.cells]at h16 h37
 simp -implicitDefEqProofs[i14,r14,Gm.cells,Tin.cells]
 refine call_go (h16 _) ?_
 simp -implicitDefEqProofs[hc]
 refine call_go (h37 _) ?_
 have hb:=blkO_len g g.is.length
 have hbr:=blkO_row g g.is.length
 generalize blkO g g.is.length=M at *
 have h0:ZW g H t (zersA g) (zers 10) (H++gbox g::tB t::gbox g::⟨outs g.is.length (pB (H.length+2)) g.acts 0,36,0,true⟩::(M++[⟨ints (zers 10),71,0,true⟩])):=by
  refine⟨?_,?_,fun i hi => ?_,?_,fun i hi=>by simp[zersA,zers],by simp[zers],fun j hj=>by rw[List.getElem?_append_left hj]⟩
  · rw[List.getElem?_append_right (by omega)]; simp
  · rw[List.getElem?_append_right (by omega)]; simp
  · rw[List.getElem?_append_right (by unfold pB; omega),show pB (H.length+2) i-H.length=(2*i+1)+4 by unfold pB; omega]
    simp only[List.getElem?_cons_succ]
    rw[List.getElem?_append_left (by omega)]; exact hbr i hi
  · rw[List.getElem?_append_right (by omega),show H.length+4+2*g.is.length-H.length=M.length+4 by omega]
    simp only[List.getElem?_cons_succ]
    rw[List.getElem?_append_right (by omega)]; simp
 have ez:ints (zers 10)=[i64 0,i64 0,i64 0,i64 0,i64 0,i64 0,i64 0,i64 0,i64 0,i64 0]:=rfl
 have ep:H.length+(M.length+4)=H.length+4+2*g.is.length:=by omega
 rw[ez]at h0
 simp -implicitDefEqProofs
 refine tlp14_0 (H:=H) (t:=t) hW hT hS (fun env X h g7 => ?_) g.is.length 0 _ _ (by omega) h0 (by simp) (by simp) (by simp[ep]) (by simp) (by simp) (by simp)
 simp -implicitDefEqProofs[g7]
 have fS:=fz_outsN (H:=H) (G:=X) (p:=H.length+3) (A:=fun j=>shrI (t.A.getD j [])) (by omega) h.oo (fun i hi=>⟨by unfold pB; omega,by rw[h.r i hi,shA_at _ _ hi],by have:=h.l i hi; rw[shA_at _ _ hi]at this; exact this⟩) 1
 have hfz:SV.fz H.length [] (X.drop H.length) 5 (.tup [.own (H.length+3) 0 g.is.length 1 0,i64 0])=.tup [.slc (sls ((List.range g.is.length).map fun j=>shrI (t.A.getD j []))) g.is.length,i64 0]:=by
  simp only[fz_tup,List.map_cons,List.map_nil,fz_i64,Nat.reduceAdd,fS]
 have:=cv_fz (n0:=H.length) (H:=H) (L:=X.drop H.length) 5 hcl rfl hfz
 rw[←tail_of h.low]at this
 exact this
end
end Go.Proofs.Ytogjmpkehjfecaa.Rc
namespace Go.Proofs.Ytogjmpkehjfecaa.Rc
open Go.Ab Go.Ab.Shr
def exT0:Tin:=⟨0,0,[[0,0],[0,0],[0,0,0]],[[0,0],[0,0],[0,0,0]]⟩
def exT1:Tin:=⟨1,0,[[171,-171],[341,-341],[341,-1194,853]],[[536870912,536870912],[536870912,536870912],[178962432,178954240,178954240]]⟩
theorem ex_new:newR exG=(exT0,0):=by kernel_rfl
theorem ex_run:runR exG exT0 1=(exT1,0):=by kernel_rfl
theorem ex_chk:chkS exG exT1=0:=by kernel_rfl
theorem ex_shr:(List.range exG.is.length).map (fun j=>shrI (exT1.A.getD j []))=[[65536,0],[65536,0],[18717,0,46819]]:=by kernel_rfl
end Go.Proofs.Ytogjmpkehjfecaa.Rc
namespace Go.Proofs.Ytogjmpkehjfecaa.Rc
open Go.Ab Go.Ab.Shr
section
variable {H:List AO}
theorem ex_sho:∀ l∈exT1.A,ShO l:=by
 intro l hl
 simp only[exT1,List.mem_cons,List.not_mem_nil,or_false]at hl
 rcases hl with rfl | rfl | rfl<;>refine⟨by decide,by decide,fun v hv => ?_⟩<;>simp at hv<;>omega
theorem fz_three {X:List AO} {p q0 q1 q2:Nat} {l0 l1 l2:List Int} (h:X[p]? = some ⟨[.own q0 0 l0.length 1 0,.own q1 0 l1.length 1 0,.own q2 0 l2.length 1 0],36,0,true⟩) (h0:X[q0]? = some ⟨ints l0,3,0,true⟩) (h1:X[q1]? = some ⟨ints l1,3,0,true⟩) (h2:X[q2]? = some ⟨ints l2,3,0,true⟩) :
 SV.fz 0 [] X 4 (.own p 0 3 1 0)=.slc (sls [l0,l1,l2]) 3:=by
 have:=fz_outsN (H:=[]) (G:=X) (I:=3) (p:=p) (q:=fun i=>[q0,q1,q2].getD i 0) (n:=fun i=>[l0.length,l1.length,l2.length].getD i 0) (A:=fun i=>[l0,l1,l2].getD i []) (v:=0) (w:=0) (T:=36) (by simp) (by rw[h]; rfl) (fun i hi=>by
  have hi3:i=0∨i=1∨i=2:=by omega
  rcases hi3 with rfl | rfl | rfl
  · exact⟨by simp,h0,rfl⟩
  · exact⟨by simp,h1,rfl⟩
  · exact⟨by simp,h2,rfl⟩) 1
 exact this
set_option maxRecDepth 10000 in
theorem ok6:Ok Try.prog 6 [] H (.ret (bl true)) H:=by
 refine ok_fn hm Try.func6 c6 (by simp) fun hcl => ?_
 have h13:=fun H=>ok13 (H:=H) (g:=exG)
 have h15:=fun H=>ok15 (H:=H) (g:=exG) exT0
 have h14:=fun H=>ok14 (H:=H) (g:=exG) (t:=exT1) (chk_zero ex_chk).1 ex_chk (chk_tin ex_chk) ex_sho
 rw[ex_new]at h13
 rw[ex_run]at h15
 rw[ex_shr]at h14
 simp only[Tin.cells]at h13 h15 h14
 simp -implicitDefEqProofs[i6,r6]
 refine call_go ok25 ?_
 simp -implicitDefEqProofs
 refine call_go (h13 _) ?_
 simp -implicitDefEqProofs
 refine callq_go (fun _=>ok25) ?_
 simp -implicitDefEqProofs
 refine callq_go (fun _=>h15 _) ?_
 simp -implicitDefEqProofs
 refine callq_go (fun _=>ok25) ?_
 simp -implicitDefEqProofs
 refine callq_go (fun _=>h14 _) ?_
 simp -implicitDefEqProofs
 have e1:∀ L:List AO,SV.fz 0 [] (H++L) 4 (.slc (sls exT1.A) exT1.A.length)=.slc (sls exT1.A) exT1.A.length:=fun L=>fz_under (by simp[sls_under])
 have at':∀ (L:List AO) (k:Nat),(H++L)[H.length+k]? = L[k]? := fun L k=>by rw[List.getElem?_append_right (by omega)]; congr 1; omega
 refine callq_st (r:=bl true) (fun _=>Ok.fz 4 ?_) ?_
 · simp only[List.map_cons,List.map_nil,SV.strip,e1]
   rw[fz_three (l0:=[171,-171]) (l1:=[341,-341]) (l2:=[341,-1194,853]) (by rw[at' _ 4]; rfl) (by rw[at' _ 1]; rfl) (by rw[at' _ 2]; rfl) (by rw[at' _ 3]; rfl)]
   exact ok26s (A:=exT1.A) (by decide) (by decide)
 simp -implicitDefEqProofs
 have e2:∀ L:List AO,SV.fz 0 [] (H++L) 4 (.slc (sls [[65536,0],[65536,0],[18717,0,46819]]) exG.is.length)=.slc (sls [[65536,0],[65536,0],[18717,0,46819]]) exG.is.length:=fun L=>fz_under (by simp[sls_under])
 refine callq_st (r:=bl true) (fun _=>Ok.fz 4 ?_) ?_
 · simp only[List.map_cons,List.map_nil,SV.strip,e2]
   rw[fz_three (l0:=[65536,0]) (l1:=[65536,0]) (l2:=[18717,0,46819]) (by rw[at' _ 8]; rfl) (by rw[at' _ 5]; rfl) (by rw[at' _ 6]; rfl) (by rw[at' _ 7]; rfl)]
   exact ok26s (A:=[[65536,0],[65536,0],[18717,0,46819]]) (by decide) (by decide)
 simp -implicitDefEqProofs
 exact cv_fz 1 hcl rfl (by simp)
end
end Go.Proofs.Ytogjmpkehjfecaa.Rc
namespace Go.Proofs.Ytogjmpkehjfecaa.Rc
open Go.Ab Go.Ab.Shr
theorem good_len {x:Nd} {pl:Int} {is:List (Int×Int)} (h:x.good pl is) (hp:pl≤4):x.nx.length≤80∧x.ws.length≤80∧x.ps.length≤80:=by
 rcases h with ⟨a1,a2,a3,a4,a5,a6,a7,a8⟩ | ⟨a1,a2,a3,a4,a5,a6,a7,a8,a9⟩ | ⟨a1,a2,a3,a4,a5,a6,a7⟩
 · rw[a4]; simp; omega
 · rw[a2,a3]; simp; omega
 · rw[a4,a5]; simp; omega
theorem Made.nd {most:Int} {g:Gm} (h:Made 2 most g):(∀ i,i<g.ns.length->(ndA g i).k=3->(ndA g i).ps.length=2)∧(∀ i,i<g.ns.length->(ndA g i).k=2->0≤(ndA g i).p∧(ndA g i).p<1000):=by
 have key:∀ i,i<g.ns.length->(ndA g i).good 2 g.is:=fun i hi=>by
  have e:ndA g i=g.ns[i]:=by simp[ndA,hi]
  rw[e]; exact h.good _ (List.getElem_mem hi)
 refine⟨fun i hi hk => ?_,fun i hi hk => ?_⟩
 · rcases key i hi with ⟨a1,_⟩ | ⟨a1,_⟩ | ⟨a1,a2,a3,a4,a5,a6,a7⟩
   · omega
   · omega
   · omega
 · rcases key i hi with ⟨a1,_⟩ | ⟨a1,a2,a3,a4,a5,a6,a7,a8,a9⟩ | ⟨a1,_⟩
   · omega
   · omega
   · omega
theorem lw_init {H M:List AO} {g:Gm} {B D:AO} (hM:OWM (H.length+5) (ndA g) g.ns.length M) :
 LW H g (ndS g 0) (isS g 0) (H++gbox g::gbox g::B::⟨infs g.is,45,2,true⟩::D::(M++[⟨[i64 g.pl,.own (H.length+10) 0 g.ns.length 6 g.ns.length,.own (H.length+3) 0 g.is.length 2 2],25,0,true⟩])):=by
 have e0:ndS g 0=ndA g:=by funext j; simp[ndS]
 have hl:=hM.len
 have old:∀ (k:Nat) (o:AO),M[k]? = some o->∀ T:List AO,(H++gbox g::gbox g::B::⟨infs g.is,45,2,true⟩::D::(M++T))[H.length+5+k]? = some o:=fun k o h T=>by
  rw[List.getElem?_append_right (by omega),show H.length+5+k-H.length=k+5 by omega]
  simp only[List.getElem?_cons_succ]
  rw[List.getElem?_append_left (getElem?_lt h)]; exact h
 rw[e0,isS_0]
 refine⟨by simp[hl]; omega,fun j hj => ?_,?_,?_,fun j hj => ?_,fun j hj => ?_,fun j hj => ?_,?_,?_⟩
 · rw[List.getElem?_append_left hj]
 · simp
 · exact old 5 _ hM.row _
 · exact old _ _ (hM.n j hj) _
 · exact old _ _ (hM.w j hj) _
 · exact old _ _ (hM.p j hj) _
 · rw[List.getElem?_append_right (by omega),show H.length+3-H.length=3 by omega]; rfl
 · rw[List.getElem?_append_right (by omega),show H.length+5*g.ns.length+6-H.length=M.length+5 by omega]
   simp
theorem LW.split {H X:List AO} {g:Gm} {nd:Nat->Nd} {is:List (Int×Int)} (h:LW H g nd is X):X=(H++[gbox g])++X.drop (H.length+1):=by
 have ht:=tail_of (H:=H++[gbox g]) (X:=X) fun j hj=>by
  by_cases h1:j<H.length
  · rw[List.getElem?_append_left h1]; exact h.low j h1
  · have:j=H.length:=by simp at hj; omega
    subst this
    rw[h.g5]; simp
 have e:(H++[gbox g]).length=H.length+1:=by simp
 rw[e]at ht
 exact ht
theorem refz_id {H0 L:List AO} {d:Nat} (h:closed H0):Refz H0 H0 L [] d:=⟨rfl,fun i o' ho=>.inl ⟨ho,fun s hs=>h i o' ho s hs⟩⟩
section
variable {H:List AO} {l:List Int}
set_option maxRecDepth 10000 in
theorem ok5 (hl:l.length≤9223372036854775807) (r:Int):Ok Try.prog 5 [.slc (ints l) l.length,i64 r] H (.ret (bl true)) H:=by
 refine ok_fn hm Try.func5 c5 (by simp) fun hcl => ?_
 simp -implicitDefEqProofs[i5,r5]
 refine call_go ok6 ?_
 by_cases hb:80<l.length
 · simp -implicitDefEqProofs[hb,show(80:Int)<l.length by omega]
   exact cv_id
 · simp -implicitDefEqProofs[hb,show ¬ (80:Int)<l.length by omega]
   refine call_goP (ok11 (l:=l) (pl:=2) (most:=25) (zero:=false) (by omega) (by omega) (by omega) (by omega) (by omega)) ?_
   rintro o G' ⟨g,hg,rfl,hG⟩
   rw[hG]
   clear hG G'
   have hml:=hg.ml
   have hil:=hg.il
   have hn1:=hg.n1
   have hpl:=hg.pl
   obtain⟨n3,n2⟩:=hg.nd
   simp -implicitDefEqProofs[Gm.cells]
   have h24:=ok24k (H:=H++[gbox g]) (g:=g) hn1 (by omega) (by omega) (fun x hx=>good_len (hg.good x hx) (by omega))
   simp only[Gm.cells,gbox]at h24
   refine call_goP h24 ?_
   rintro o G' ⟨B,D,M,rfl,rfl,hM⟩
   have hl1:(H++[(⟨[i64 g.pl,SV.slc (nds g.ns) g.ns.length,SV.slc (infs g.is) g.is.length],25,0,true⟩:AO)]).length=H.length+1:=by simp
   rw[hl1]at hM
   have hcl2:closed (H++[gbox g]):=by
    intro i o ho x hx
    by_cases h1:i<H.length
    · rw[List.getElem?_append_left h1]at ho
      exact SV.under_mono (by simp) x (hcl i o ho x hx)
    · rw[List.getElem?_append_right (by omega)]at ho
      have:i-H.length=0:=by have:=getElem?_lt ho; simp at this; omega
      rw[this]at ho
      simp at ho
      subst ho
      have a1:=nds_under (H.length+1) g.ns
      have a2:=infs_under (H.length+1) g.is
      simp[gbox,Gm.cells]at hx
      rcases hx with rfl | rfl | rfl<;>simp[nds_under,infs_under]
   have hin:=lw_init (B:=B) (D:=D) hM
   simp -implicitDefEqProofs
   rw[show H.length+(M.length+5)=H.length+5*g.ns.length+6 by have:=hM.len; omega]
   refine nlp5_0 (H:=H) (g:=g) (is:=isS g 0) (x1:=i64 r) n3 n2 (by omega) (fun env X hX h1 h5 h6 => ?_) g.ns.length 0 _ _ (by omega) hin ?_ ?_ ?_ ?_
   · simp -implicitDefEqProofs[h1,h5,h6]
     refine nlp5_1 (H:=H) (g:=g) (x1:=i64 r) (fun q hq=>by have:=hg.isr q hq; omega) (by omega) (fun env X hX h1 h5 h6 h9 => ?_) g.is.length 0 _ _ (by omega) hX ?_ ?_ ?_ ?_
     · rw[isS_all]at hX
       have hz:=refz_id (L:=X.drop (H.length+1)) (d:=5) hcl2
       have hsp:=hX.split
       have hf6:=hX.fz6
       rw[hsp]
       refine LI.tell (Tell.tail 5 hz) ?_
       refine li_go hm l5_1.eq_1 ?_
       have hl2:(H++[gbox g]).length=H.length+1:=by simp
       have k1:=fzl_at env (H.length+1) (X.drop (H.length+1)) 4 1
       have k5:=fzl_at env (H.length+1) (X.drop (H.length+1)) 4 5
       have k6:=fzl_at env (H.length+1) (X.drop (H.length+1)) 4 6
       have k9:=fzl_at env (H.length+1) (X.drop (H.length+1)) 4 9
       rw[h1,fz_i64]at k1
       rw[h5,fz_under (by simp[SV.under])]at k5
       rw[h6,hf6]at k6
       rw[h9,fz_i64]at k9
       rw[hl2]
       generalize env.fzl (H.length+1) (X.drop (H.length+1)) 5=env at *
       generalize (X.drop (H.length+1)).map AO.dead=Ld
       have il2:=sw_il (g:=g)
       rw[←il2]at k9
       have hs:=hg.sml (by omega) (by omega) (by omega)
       have hs':=sw_sml hg (by omega)
       obtain⟨m,hm⟩:∃ m:Nat,r % 41=m:=⟨(r % 41).toNat,by omega⟩
       have hm40:m≤40:=by omega
       obtain⟨r1,r2⟩:=sw_run hg (by omega) (m:=m) (by omega)
       have hsm:=run_small (g:=g) (T0 g) m
       have h12:=fun H=>ok12 (H:=H) r 41 (by omega) (by omega)
       rw[hm]at h12
       have h13:=fun H=>ok13 (H:=H) (g:=g)
       have h13':=fun H=>ok13 (H:=H) (g:=g.sw)
       rw[new_T0 hs]at h13
       rw[new_T0 hs',sw_T0]at h13'
       have h8:=fun H=>ok8 (H:=H) (g:=g) (T0 g) (m:Int) (by omega)
       have h8':=fun H=>ok8 (H:=H) (g:=g.sw) (T0 g) (m:Int) (by omega)
       rw[sw_T0]at r1
       rw[r1,r2]at h8'
       rw[r2]at h8
       generalize runR g (T0 g) m=Z at *
       have h10:=fun H=>ok10 (H:=H) (T:=Z.1) hsm
       simp only[Gm.cells]at k6 h13 h13' h8 h8'
       generalize T0 g=T at *
       simp only[Tin.cells]at h13 h13' h8 h8' h10
       simp -implicitDefEqProofs[k1,k5,k6,k9]
       refine call_go (h12 _) ?_
       simp -implicitDefEqProofs[k1,k5,k6,k9,gbox,Gm.cells]
       refine call_go (h13 _) ?_
       simp -implicitDefEqProofs[k1,k5,k6,k9]
       refine call_go (h13' _) ?_
       simp -implicitDefEqProofs[k1,k5,k6,k9]
       refine call_go (h8 _) ?_
       simp -implicitDefEqProofs[k1,k5,k6,k9]
       refine call_go (h8' _) ?_
       simp -implicitDefEqProofs[k1,k5,k6,k9]
       refine callq_st (fun _=>by simp only[List.map_cons,List.map_nil,SV.strip]; exact h10 _) ?_
       simp -implicitDefEqProofs[k1,k5,k6,k9]
       exact cv_fz 1 hcl rfl (by simp)
     · simp[h1]
     · simp[h5]
     · simp[h6]
     · simp
   · simp
   · simp
   · simp
   · simp
end
end Go.Proofs.Ytogjmpkehjfecaa.Rc
namespace Go.Proofs.Ytogjmpkehjfecaa.Rc
open Go.Ab
end Go.Proofs.Ytogjmpkehjfecaa.Rc
