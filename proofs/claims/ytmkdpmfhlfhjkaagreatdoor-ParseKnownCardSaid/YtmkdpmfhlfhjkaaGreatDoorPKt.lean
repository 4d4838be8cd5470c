/-
  Steps of the proof: contracts of functions and plain facts that the statement rests on.
-/
import Derived.Test.YtmkdpmfhlfhjkaaGreatDoorPart4
import Derived.Test.YtmkdpmfhlfhjkaaGreatDoorPKb
set_option linter.all false
namespace Go.Proofs.YtmkdpmfhlfhjkaaGreatDoor
open Go.Ab
section
variable {c:Cx}
theorem binF_num {ops:List (List UInt8×Int)} {F:Rd->Ex×Rd} {r r':Rd} {e:Ex} {L:List TK} (h:F r=(e,r')) (hs:Sta c 40 r' L) (hn:noOp ops L):binF c ops F r=(e,r'):=by
 unfold binF
 rw[h]
 exact binL_stop (hs.none hn) _
theorem or_num {r:Rd} {n:Nat} {L:List TK} (h:Sta c 40 r (.nm n::.sg [59]::L)):∃ e,orT c r=(e,nextR r):=by
 have h1:=h.next
 have hfac:∀ o f,facG c o f r=(.mk 1 (nmR c r).1 [] [] (hereR c r),nextR r):=by
  intro o f
  have hw:wrdO.find? (fun w=>peekR c w.1 r)=none:=by
   rw[List.find?_eq_none]
   intro x _
   rw[h.peek]; simp[pk]
  unfold facG
  rw[if_neg (by rw[h.e]; simp),if_neg (by rw[h.free]; simp[freQ]),if_neg (by rw[h.peek]; simp[pk]),if_neg (by rw[h.peek]; simp[pk]),hw]
  simp only[]
  rw[h.numb.1]
 have no:∀ ops:List (List UInt8×Int),(ops.all fun o=>decide (o.1≠[59]))=true->noOp ops (.sg [59]::L):=by
  intro ops ho o hm
  have:=List.all_eq_true.1 ho o hm
  simp only[decide_eq_true_eq]at this
  simp only[pk,decide_eq_false_iff_not]
  exact fun e=>this e.symm
 refine⟨.mk 1 (nmR c r).1 [] [] (hereR c r),?_⟩
 unfold orT orOf
 refine binF_num (binF_num ?_ h1 (no _ (by decide))) h1 (no _ (by decide))
 have hnt:∀ o f nt,notG c (cmpOf c (facG c o f)) nt r=(.mk 1 (nmR c r).1 [] [] (hereR c r),nextR r):=by
  intro o f nt
  unfold notG
  rw[if_neg (by rw[h.peek]; simp[pk])]
  have hb:=binF_num (c:=c) (ops:=sumO) (binF_num (ops:=mulO) (hfac o f) h1 (no _ (by decide))) h1 (no _ (by decide))
  unfold cmpOf cmpF
  rw[hb]
  simp only[]
  rw[h1.none (no _ (by decide))]
 exact hnt _ _ _
def eTk:List TK:=[.wd [101,110,100],.sg [123],.wd [112,97,121],.nm 0,.sg [59],.sg [125]]
def nx:Nat->Rd->Rd
 | 0,r=>r
 | n+1,r=>nx n (nextR r)
theorem end_st {r:Rd} {L:List TK} (h:Sta c 40 r (eTk++L)):(stageR c (orT c) r).2=nx 6 r∧Sta c 40 (nx 6 r) L:=by
 have h0:Sta c 40 r (.wd [101,110,100]::.sg [123]::.wd [112,97,121]::.nm 0::.sg [59]::.sg [125]::L):=h
 have h1:=h0.next
 have h2:=h1.next
 have h3:=h2.next
 have h4:=h3.next
 have h5:=h4.next
 have h6:=h5.next
 refine⟨?_,h6⟩
 have t1:takeR c [101,110,100] r=((takeR c [101,110,100] r).1,nextR r):=by rw[←(h0.take (s:=[101,110,100]) rfl).1]
 have t2':t2 c [123] (nextR r)=nextR (nextR r):=(h1.take rfl).1
 have t3:t2 c [112,97,121] (nextR (nextR r))=nextR (nextR (nextR r)):=(h2.take rfl).1
 obtain⟨e,he⟩:=or_num h3
 have hl:labelR c r=([],r):=by
  unfold labelR
  rw[if_neg (by rw[h0.free]; simp[freQ]; decide)]
 have hx:exprsR c (orT c) (nextR (nextR (nextR r)))=([e],nextR (nextR (nextR (nextR r)))):=by
  unfold exprsR
  rw[he]
  cases c.ts.length with
  | zero=>rfl
  | succ n =>
   rw[exprsL,if_neg (by rw[h4.peek]; simp[pk])]
 have t5:t2 c [59] (nextR (nextR (nextR (nextR r))))=nextR (nextR (nextR (nextR (nextR r)))):=(h4.take rfl).1
 have t6:t2 c [125] (nextR (nextR (nextR (nextR (nextR r)))))=nx 6 r:=(h5.take rfl).1
 unfold stageR
 rw[hl]
 simp only[]
 rw[if_neg (by rw[h0.peek]; simp[pk]),if_neg (by rw[h0.peek]; simp[pk]),t1]
 simp only[]
 rw[t2',t3,hx]
 simp only[]
 rw[t5,t6]
def eTks:Nat->List TK
 | 0=>[]
 | n+1=>eTk++eTks n
theorem ends_ok:∀ (m n:Nat) (l:List StageP) (r:Rd),Sta c 40 r (eTks m)->l.length+m≤100->m<n->(l≠[]∨0<m)->(stagesL c (orT c) n l r).2.e=0
 | 0,n+1,l,r,h,hl,hn,h0=>by
  have hend:=h.rem.end
  have hne:l≠[]:=h0.resolve_right (by omega)
  rw[stagesL,if_neg (by intro h2; rcases h2.2 with h3 | h3; exact hne h3; omega)]
  exact h.e
 | m+1,n+1,l,r,h,hl,hn,h0=>by
  have hlt:r.a<c.ts.length:=by
   obtain⟨ha,_⟩:=(show Rem c r.a (.wd [101,110,100]::(eTk.tail++eTks m))from h.rem).lt
   exact ha
  obtain⟨e1,e2⟩:=end_st (show Sta c 40 r (eTk++eTks m)from h)
  rw[stagesL,if_pos ⟨h.e,.inr hlt⟩]
  have hf:fullR c l r=r:=by unfold fullR; rw[if_neg (by omega)]
  rw[hf,e1]
  exact ends_ok m n _ _ e2 (by simp; omega) (by omega) (.inl (by simp))
theorem nx_a:∀ (n:Nat) (r:Rd),(nx n r).a=r.a+n
 | 0,r=>rfl
 | n+1,r=>by rw[nx,nx_a n]; simp[nextR]; omega
theorem ends_full:∀ (k m n:Nat) (l:List StageP) (r:Rd),Sta c 40 r (eTks (k+1+m))->l.length+k=100->k<n->(stagesL c (orT c) n l r).2.e=12 ∧
 (stagesL c (orT c) n l r).2.p=hereR c ⟨r.a+6*k,0,0,0⟩
 | 0,m,n+1,l,r,h,hl,hn=>by
  have h':Sta c 40 r (.wd [101,110,100]::(eTk.tail++eTks m)):=by
   have:eTks (0+1+m)=.wd [101,110,100]::(eTk.tail++eTks m):=by rw[show 0+1+m=m+1 by omega]; rfl
   rwa [this]at h
  obtain⟨hlt,_⟩:=h'.rem.lt
  rw[stagesL,if_pos ⟨h.e,.inr hlt⟩]
  have hf:fullR c l r=failR c 12 r:=by
   unfold fullR
   rw[if_pos ⟨by omega,by rw[h'.peek [101,110,100]]; simp[pk]⟩]
  have hbad:(failR c 12 r).e≠0:=by unfold failR; rw[if_pos h.e]; simp
  have hs:=stage_still (c:=c) (orT_still (c:=c)) _ hbad
  rw[stages_bad (by rw[hf,hs]; exact hbad),hf,hs]
  unfold failR
  rw[if_pos h.e]
  exact⟨rfl,rfl⟩
 | k+1,m,n+1,l,r,h,hl,hn=>by
  have h':Sta c 40 r (eTk++eTks (k+1+m)):=by
   have:eTks (k+1+1+m)=eTk++eTks (k+1+m):=by rw[show k+1+1+m=(k+1+m)+1 by omega]; rfl
   rwa [this]at h
  have hlt:r.a<c.ts.length:=by
   obtain⟨ha,_⟩:=(show Rem c r.a (.wd [101,110,100]::(eTk.tail++eTks (k+1+m)))from h'.rem).lt
   exact ha
  obtain⟨e1,e2⟩:=end_st h'
  rw[stagesL,if_pos ⟨h.e,.inr hlt⟩]
  have hf:fullR c l r=r:=by unfold fullR; rw[if_neg (by omega)]
  rw[hf,e1]
  have:=ends_full k m n (l++[(stageR c (orT c) r).1]) (nx 6 r) e2 (by simp; omega) (by omega)
  rw[nx_a]at this
  rw[show r.a+6*(k+1)=r.a+6+6*k by omega]
  exact this
end
end Go.Proofs.YtmkdpmfhlfhjkaaGreatDoor
