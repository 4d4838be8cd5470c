/- Steps of the proof. -/
import Derived.Test.YtmkdpmfhlfhjkaaGreatDoorPKt
set_option linter.all false
namespace Go.Proofs.YtmkdpmfhlfhjkaaGreatDoor
open Go.Ab
section
variable {a b:ZE}
theorem Qm2 (hn:(35:UInt8)∉a):∀ (n m p:Nat),p<=a.length->a.length<=p+n->(a++32::b).length<=p+m ->
 evs (a++32::b) m p=evs a n p++bif bad (evs a n p)then []else evs (a++32::b) m a.length
 |n,0,p,h,h2,h3=>by simp at h3; omega
 |0,m+1,p,h,h2,h3=>by
  have e:p=a.length:=by omega
  subst e;simp[evs,bad]
 |n+1,m+1,p,h,h2,h3=>by
  by_cases hp:p<a.length
  . have hs:Qy (a++32::b) p=Qy a p:=QzZ (.inr rfl) hp (.inr (by
     intro h;apply hn;rw[VB,Vd hp]at h;simp only[VX]at h;rw[<-h]; exact Vu hp))
    have hl:p<(a++32::b).length:=by simp; omega
    have hf:evs (a++32::b) (m+1) a.length=evs (a++32::b) m a.length:=QkR _ _ _ (by simp at h3 ⊢; omega) (by simp at h3 ⊢; omega);rw[hf]
    cases hst:Qy a p with
    |skip q =>
     have:=QsL hp hst;have e1:evs a (n+1) p=evs a n q:=by simp only[evs]; rw[Zn hp,hst]
     have e2:evs (a++32::b) (m+1) p=evs (a++32::b) m q:=by simp only[evs]; rw[Zn hl,hs,hst]
     rw[e1,e2];exact Qm2 hn n m q (by omega) (by omega) (by simp at h3 ⊢; omega)
    |tok t q =>
     have:=mkq hst hp;have e1:evs a (n+1) p=.tok t::evs a n q:=by simp only[evs]; rw[Zn hp,hst]
     have e2:evs (a++32::b) (m+1) p=.tok t::evs (a++32::b) m q:=by simp only[evs]; rw[Zn hl,hs,hst]
     rw[e1,e2];simp only[Vv,bad];rw[Qm2 hn n m q (by omega) (by omega) (by simp at h3 ⊢; omega)]
    |flt e =>
     have e1:evs a (n+1) p=[.flt e p]:=by simp only[evs]; rw[Zn hp,hst]
     have e2:evs (a++32::b) (m+1) p=[.flt e p]:=by simp only[evs]; rw[Zn hl,hs,hst]
     rw[e1,e2];simp[bad]
  . have e:p=a.length:=by omega
    subst e;have:evs a (n+1) a.length=[]:=by simp only[evs]; rw[Zm (by omega)]
    rw[this];simp[bad]
theorem Qs7 (hn:(35:UInt8)∉a) (hb:bad (Qaz a)=false):Qaz (a++32::b)=Qaz a++(Qaz b).map (Ev.mv (a.length+1)):=by
 have h:=Qm2 (a:=a) (b:=b) hn a.length (a++32::b).length 0 (by omega) (by omega) (by omega);have e:(a++32::b).length=(a.length+b.length)+1:=by simp; omega
 rw[e,QzV (by rfl) _ (by omega)]at h;rw[<-e]at h;have h2:Qaz (a++32::b)=Qaz a++bif bad (Qaz a)then []else(Qaz b).map (Ev.mv (a.length+1)):=h;rw[h2,hb]; rfl
end
theorem Qqf (s:ZE):∀ n,rep s (n+1)=s++rep s n
 |0=>by simp[rep]
 |n+1=>by
  show rep s (n+1)++s=s++(rep s n++s);rw[Qqf s n,Vz]
def en1:ZE:=[101,110,100,32,123,32,112,97,121,32,48,59,32,125]
def fr1:ZE:=[103,97,109,101,32,103,59,32,112,108,97,121,101,114,115,32,49,59]
def enQ:ZE:=[101,110,100,32,123,32,112,97,121,32,48,59,32,125,32]
def frQ:ZE:=[103,97,109,101,32,103,59,32,112,108,97,121,101,114,115,32,49,59,32]
def Qf0:List Tok:=[⟨1,[101,110,100],0,0⟩,⟨3,[123],0,4⟩,⟨1,[112,97,121],0,6⟩,⟨2,[48],0,10⟩,⟨3,[59],0,11⟩,⟨3,[125],0,13⟩]
def QdI:List Tok:=[⟨1,[103,97,109,101],0,0⟩,⟨1,[103],0,5⟩,⟨3,[59],0,6⟩,⟨1,[112,108,97,121,101,114,115],0,8⟩,⟨2,[49],1,16⟩,⟨3,[59],0,17⟩]
theorem QsY:Qaz en1=Qf0.map Ev.tok:=by kernel_rfl
theorem Qpt:Qaz fr1=QdI.map Ev.tok:=by kernel_rfl
def Qb3:Nat->List Tok
 |0=>[]
 |n+1=>Qf0++(Qb3 n).map (Tok.mv · 15)
theorem QrR (d:Nat) (l:List Tok):(l.map Ev.tok).map (Ev.mv d)=(l.map (Tok.mv · d)).map Ev.tok:=by
 rw[YB,YB]; rfl
theorem QiO:∀ l:List Tok,bad (l.map Ev.tok)=false
 |[]=>rfl
 |t::l=>by simp only[Vn,bad]; exact QiO l
theorem Qml:∀ l:List Tok,Qag (l.map Ev.tok)=l
 |[]=>rfl
 |t::l=>by simp only[Vn,Qag]; rw[Qml l]
theorem Qsy:∀ n,Qaz (rep enQ n)=(Qb3 n).map Ev.tok
 |0=>rfl
 |n+1=>by
  have e:rep enQ (n+1)=en1++32::rep enQ n:=by rw[Qqf]; rfl
  rw[e,Qs7 (by decide) (by rw[QsY]; exact QiO _),QsY,Qsy n,Qb3,YZ];congr 1;exact QrR 15 _
theorem Qrt (n:Nat):Qaz (frQ++rep enQ n)=(QdI++(Qb3 n).map (Tok.mv · 19)).map Ev.tok:=by
 have e:frQ++rep enQ n=fr1++32::rep enQ n:=rfl;rw[e,Qs7 (by decide) (by rw[Qpt]; exact QiO _),Qpt,Qsy n,YZ];congr 1;exact QrR 19 _
theorem Qnz:∀ n,(Qb3 n).length=6*n
 |0=>rfl
 |n+1=>by rw[Qb3,Vj,Yf,Qnz n]; simp[Qf0]; omega
theorem QsB {n:Nat} (hn:n<=800):Qv (frQ++rep enQ n)=(QdI++(Qb3 n).map (Tok.mv · 19),0,0):=by
 have hl:(frQ++rep enQ n).length<=20000:=by rw[Vj,Qbd]; simp[frQ,enQ]; omega
 rw[QtY hl (by rw[Qrt,Qml,Vj,Yf,Qnz]; simp[QdI]; omega),Qrt,QiO,Qml];rfl
theorem QeF.mv {t:Tok} {k:TK} (h:QeF t k) (d:Nat):QeF (t.mv d) k:=by cases k<;>exact h
theorem Qbo.mv {l:List Tok} {ks:List TK} (h:Qbo l ks) (d:Nat):Qbo (l.map (Tok.mv · d)) ks:=by
 induction h with
 |nil=>exact .nil
 |cons h1 _ ih=>exact .cons (h1.mv d) ih
theorem Qbo.app {l l':List Tok} {ks ks':List TK} (h:Qbo l ks) (h':Qbo l' ks'):Qbo (l++l') (ks++ks'):=by
 induction h with
 |nil=>exact h'
 |cons h1 _ ih=>exact .cons h1 ih
theorem QuO:Qbo Qf0 eTk:=by
 refine .cons ⟨rfl,rfl⟩ (.cons ⟨rfl,rfl⟩ (.cons ⟨rfl,rfl⟩ (.cons ⟨rfl,rfl⟩ (.cons ⟨rfl,rfl⟩ (.cons ⟨rfl,rfl⟩ .nil)))))
def fTk:List TK:=[.wd [103,97,109,101],.wd [103],.sg [59],.wd [112,108,97,121,101,114,115],.nm 1,.sg [59]]
theorem QwX:Qbo QdI fTk:=by
 refine .cons ⟨rfl,rfl⟩ (.cons ⟨rfl,rfl⟩ (.cons ⟨rfl,rfl⟩ (.cons ⟨rfl,rfl⟩ (.cons ⟨rfl,rfl⟩ (.cons ⟨rfl,rfl⟩ .nil)))))
theorem QrI:∀ n,Qbo (Qb3 n) (Qbv n)
 |0=>.nil
 |n+1=>QuO.app ((QrI n).mv 15)
theorem QAG (n:Nat):Qbo (QdI++(Qb3 n).map (Tok.mv · 19)) (fTk++Qbv n):=QwX.app ((QrI n).mv 19)
theorem Qrq:∀ (n k:Nat),k<n->((Qb3 n)[6*k]?).map (·.p)=some (15*k)
 |0,k,h=>by omega
 |n+1,0,h=>rfl
 |n+1,k+1,h=>by
  rw[Qb3,Vk (by simp[Qf0]; omega)];have:6*(k+1)-Qf0.length=6*k:=by simp[Qf0]; omega
  rw[this,Vp,Y1];have ih:=Qrq n k (by omega)
  cases hx:(Qb3 n)[6*k]? with
  |none=>rw[hx]at ih; cases ih
  |some t =>
   rw[hx]at ih;simp only[VF,Option.some.injEq]at ih;simp only[VF,Function.comp,Tok.mv,ih,Option.some.injEq];omega
end Go.Proofs.YtmkdpmfhlfhjkaaGreatDoor
