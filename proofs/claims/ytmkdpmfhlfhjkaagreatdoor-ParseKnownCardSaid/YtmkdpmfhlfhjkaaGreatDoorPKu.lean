/-
  Steps of the proof: contracts of functions and plain facts that the statement rests on.
-/
import Derived.Test.YtmkdpmfhlfhjkaaGreatDoorPKs
import Derived.Test.YtmkdpmfhlfhjkaaGreatDoorPKf
set_option linter.all false
namespace Go.Proofs.YtmkdpmfhlfhjkaaGreatDoor
open Go.Ab
def cxE (n:Nat):Cx:=⟨fTok++(endT' n).map (Tok.mv · 19),(frQ++rep enQ n).length⟩
def rd0:Rd:=⟨0,0,0,0⟩
theorem sta0 (n:Nat):Sta (cxE n) 40 rd0 (fTk++eTks n):=⟨rfl,all_fit n,by decide,by decide⟩
theorem cx_len (n:Nat):(cxE n).ts.length=6+6*n:=by
 show(fTok++(endT' n).map (Tok.mv · 19)).length=_
 rw[List.length_append,List.length_map,endT_len]; simp[fTok]
theorem parse_ends {n:Nat} (hn:n≤800):Sta (cxE n) 40 (nx 6 rd0) (eTks n) ∧
 (parseR (frQ++rep enQ n)).2=if(stagesL (cxE n) (orT (cxE n)) (6+6*n+1) [] (nx 6 rd0)).2.e≠0 then((stagesL (cxE n) (orT (cxE n)) (6+6*n+1) [] (nx 6 rd0)).2.e,(stagesL (cxE n) (orT (cxE n)) (6+6*n+1) [] (nx 6 rd0)).2.p)else(0,0):=by
 have h0:Sta (cxE n) 40 rd0 (.wd [103,97,109,101]::.wd [103]::.sg [59]::.wd [112,108,97,121,101,114,115]::.nm 1::.sg [59]::eTks n):=sta0 n
 have h1:=h0.next
 have h2:=h1.next
 have h3:=h2.next
 have h4:=h3.next
 have h5:=h4.next
 have h6:=h5.next
 refine⟨h6,?_⟩
 have hc:(⟨(scanG (frQ++rep enQ n)).1,(frQ++rep enQ n).length⟩:Cx)=cxE n:=by rw[scan_all hn]; rfl
 have e0:¬ (scanG (frQ++rep enQ n)).2.1≠0:=by rw[scan_all hn]; simp
 have hl:=cx_len n
 unfold parseR
 rw[if_neg e0,hc]
 generalize cxE n=c at *
 have t1:t2 c [103,97,109,101] rd0=nextR rd0:=(h0.take rfl).1
 have w1:wordR c (nextR rd0)=([103],nextR (nextR rd0)):=(h1.word (by decide)).1
 have t3:t2 c [59] (nextR (nextR rd0))=nextR (nextR (nextR rd0)):=(h2.take rfl).1
 have t4:t2 c [112,108,97,121,101,114,115] (nextR (nextR (nextR rd0)))=nextR (nextR (nextR (nextR rd0))):=(h3.take rfl).1
 have n5:nmR c (nextR (nextR (nextR (nextR rd0))))=(((1:Nat):Int),nextR (nextR (nextR (nextR (nextR rd0))))):=h4.numb.1
 have t6:t2 c [59] (nextR (nextR (nextR (nextR (nextR rd0)))))=nx 6 rd0:=(h5.take rfl).1
 have hv:∀ m,varsL c m [] (nx 6 rd0)=([],nx 6 rd0):=by
  intro m
  cases m with
  | zero=>rfl
  | succ m =>
   rw[varsL,if_neg]
   rw[show peekR c [118,97,114] (nx 6 rd0)=pk (eTks n) [118,97,114]from h6.peek _]
   cases n with
   | zero=>simp[eTks,pk]
   | succ n=>simp[eTks,eTk,pk]
 unfold parseT
 rw[show(⟨0,0,0,0⟩:Rd)=rd0 from rfl,t1,w1]
 simp only[]
 rw[t3,t4,n5]
 simp only[]
 rw[t6,hv,hl]
 simp only[]
 split<;>rfl
theorem pj:(parseR (fr++rep en 100)).2=(0,0):=by
 obtain⟨h,e⟩:=parse_ends (n:=100) (by decide)
 have h2:=ends_ok 100 (6+6*100+1) [] (nx 6 rd0) h (by simp) (by decide) (.inr (by decide))
 rw[if_neg (by rw[h2]; simp)]at e
 exact e
theorem pk':(parseR (fr++rep en 101)).2=(12,1519):=by
 obtain⟨h,e⟩:=parse_ends (n:=101) (by decide)
 obtain⟨h2,h3⟩:=ends_full 100 0 (6+6*101+1) [] (nx 6 rd0) h (by simp) (by decide)
 rw[if_pos (by rw[h2]; simp),h2,h3]at e
 have hp:hereR (cxE 101) ⟨(nx 6 rd0).a+6*100,0,0,0⟩=1519:=by
  have hx:=end_at 101 100 (by decide)
  have ha:(nx 6 rd0).a=6:=by rw[nx_a]; rfl
  rw[ha]
  have hl:=cx_len 101
  unfold hereR
  rw[dif_pos (by rw[hl]; simp)]
  have ht:(cxE 101).ts[6+6*100]? = ((endT' 101)[6*100]?).map (Tok.mv · 19):=by
   show(fTok++(endT' 101).map (Tok.mv · 19))[6+6*100]? = _
   rw[List.getElem?_append_right (by simp[fTok]),List.getElem?_map]
   simp[fTok]
  cases hz:(endT' 101)[6*100]? with
  | none=>rw[hz]at hx; cases hx
  | some t =>
   rw[hz]at hx ht
   simp only[Option.map_some,Option.some.injEq]at hx
   simp only[Option.map_some]at ht
   have:=(List.getElem?_eq_some_iff.1 ht).2
   simp only[this,Tok.mv,hx]
   rfl
 rw[hp]at e
 exact e
theorem law5k {H:List AO}:Ok Tryz.prog 5 [] H (.ret (bl true)) H:=law5 pj pk'
end Go.Proofs.YtmkdpmfhlfhjkaaGreatDoor
namespace Go.Proofs.YtmkdpmfhlfhjkaaGreatDoor
open Go.Ab
theorem law5d:∀ dts,Dt.tyL Tryz.prog dts Tryz.f5.params.toList->Ok Tryz.prog 5 (dts.map Dt.sv) [] (.ret (bl true)) []:=by
 have hp:Tryz.f5.params.toList=[]:=by kernel_rfl
 rw[hp]
 intro dts h
 match dts,h with
 | [],_=>exact law5k
end Go.Proofs.YtmkdpmfhlfhjkaaGreatDoor
