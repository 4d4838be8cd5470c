/- Steps of the proof. -/
import Derived.Test.YtmkdpmfhlfhjkaaGreatDoorPKt
set_option linter.all false
namespace Go.Proofs.YtmkdpmfhlfhjkaaGreatDoor
open Go.Ab
section
variable {a b:ZE}
theorem QnN (hn:(35:UInt8)∉a):∀ (n m p:Nat),p<=a.length->a.length<=p+n->(a++32::b).length<=p+m ->
 evs (a++32::b) m p=evs a n p++bif bad (evs a n p)then []else evs (a++32::b) m a.length
 |n,0,p,h,h2,h3=>by simp at h3; omega
 |0,m+1,p,h,h2,h3=>by
  have e:p=a.length:=by omega
  subst e;simp[evs,bad]
 |n+1,m+1,p,h,h2,h3=>by
  by_cases hp:p<a.length
  . have hs:Qx (a++32::b) p=Qx a p:=QrF (.inr rfl) hp (.inr (by
     intro h;apply hn;rw[Vz,Ve hp]at h;simp only[VX]at h;rw[<-h]; exact Vt hp))
    have hl:p<(a++32::b).length:=by simp; omega
    have hf:evs (a++32::b) (m+1) a.length=evs (a++32::b) m a.length:=QhP _ _ _ (by simp at h3 ⊢; omega) (by simp at h3 ⊢; omega);rw[hf]
    cases hst:Qx a p with
    |skip q =>
     have:=Qmm hp hst;have e1:evs a (n+1) p=evs a n q:=by simp only[evs]; rw[Zo hp,hst]
     have e2:evs (a++32::b) (m+1) p=evs (a++32::b) m q:=by simp only[evs]; rw[Zo hl,hs,hst]
     rw[e1,e2];exact QnN hn n m q (by omega) (by omega) (by simp at h3 ⊢; omega)
    |tok t q =>
     have:=mkq hst hp;have e1:evs a (n+1) p=.tok t::evs a n q:=by simp only[evs]; rw[Zo hp,hst]
     have e2:evs (a++32::b) (m+1) p=.tok t::evs (a++32::b) m q:=by simp only[evs]; rw[Zo hl,hs,hst]
     rw[e1,e2];simp only[Vr,bad];rw[QnN hn n m q (by omega) (by omega) (by simp at h3 ⊢; omega)]
    |flt e =>
     have e1:evs a (n+1) p=[.flt e p]:=by simp only[evs]; rw[Zo hp,hst]
     have e2:evs (a++32::b) (m+1) p=[.flt e p]:=by simp only[evs]; rw[Zo hl,hs,hst]
     rw[e1,e2];simp[bad]
  . have e:p=a.length:=by omega
    subst e;have:evs a (n+1) a.length=[]:=by simp only[evs]; rw[Zn (by omega)]
    rw[this];simp[bad]
theorem Qsl (hn:(35:UInt8)∉a) (hb:bad (QB a)=false):QB (a++32::b)=QB a++(QB b).map (Ev.mv (a.length+1)):=by
 have h:=QnN (a:=a) (b:=b) hn a.length (a++32::b).length 0 (by omega) (by omega) (by omega);have e:(a++32::b).length=(a.length+b.length)+1:=by simp; omega
 rw[e,QnX (by rfl) _ (by omega)]at h;rw[<-e]at h;have h2:QB (a++32::b)=QB a++bif bad (QB a)then []else(QB b).map (Ev.mv (a.length+1)):=h;rw[h2,hb]; rfl
end
theorem Qq5 (s:ZE):∀ n,rep s (n+1)=s++rep s n
 |0=>by simp[rep]
 |n+1=>by
  show rep s (n+1)++s=s++(rep s n++s);rw[Qq5 s n,VC]
def en1:ZE:=[101,110,100,32,123,32,112,97,121,32,48,59,32,125]
def fr1:ZE:=[103,97,109,101,32,103,59,32,112,108,97,121,101,114,115,32,49,59]
def enQ:ZE:=[101,110,100,32,123,32,112,97,121,32,48,59,32,125,32]
def frQ:ZE:=[103,97,109,101,32,103,59,32,112,108,97,121,101,114,115,32,49,59,32]
def QfW:List Tok:=[⟨1,[101,110,100],0,0⟩,⟨3,[123],0,4⟩,⟨1,[112,97,121],0,6⟩,⟨2,[48],0,10⟩,⟨3,[59],0,11⟩,⟨3,[125],0,13⟩]
def QdJ:List Tok:=[⟨1,[103,97,109,101],0,0⟩,⟨1,[103],0,5⟩,⟨3,[59],0,6⟩,⟨1,[112,108,97,121,101,114,115],0,8⟩,⟨2,[49],1,16⟩,⟨3,[59],0,17⟩]
theorem Qpg:QB en1=QfW.map Ev.tok:=by kernel_rfl
theorem Qpa:QB fr1=QdJ.map Ev.tok:=by kernel_rfl
def Qb6:Nat->List Tok
 |0=>[]
 |n+1=>QfW++(Qb6 n).map (Tok.mv · 15)
theorem QpS (d:Nat) (l:List Tok):(l.map Ev.tok).map (Ev.mv d)=(l.map (Tok.mv · d)).map Ev.tok:=by
 rw[Yk,Yk]; rfl
theorem Qjo:∀ l:List Tok,bad (l.map Ev.tok)=false
 |[]=>rfl
 |t::l=>by simp only[Vg,bad]; exact Qjo l
theorem QlQ:∀ l:List Tok,QY (l.map Ev.tok)=l
 |[]=>rfl
 |t::l=>by simp only[Vg,QY]; rw[QlQ l]
theorem Qqm:∀ n,QB (rep enQ n)=(Qb6 n).map Ev.tok
 |0=>rfl
 |n+1=>by
  have e:rep enQ (n+1)=en1++32::rep enQ n:=by rw[Qq5]; rfl
  rw[e,Qsl (by decide) (by rw[Qpg]; exact Qjo _),Qpg,Qqm n,Qb6,Yn];congr 1;exact QpS 15 _
theorem QtX (n:Nat):QB (frQ++rep enQ n)=(QdJ++(Qb6 n).map (Tok.mv · 19)).map Ev.tok:=by
 have e:frQ++rep enQ n=fr1++32::rep enQ n:=rfl;rw[e,Qsl (by decide) (by rw[Qpa]; exact Qjo _),Qpa,Qqm n,Yn];congr 1;exact QpS 19 _
theorem Qnn:∀ n,(Qb6 n).length=6*n
 |0=>rfl
 |n+1=>by rw[Qb6,Vj,Yl,Qnn n]; simp[QfW]; omega
theorem Qq9 {n:Nat} (hn:n<=800):Qi (frQ++rep enQ n)=(QdJ++(Qb6 n).map (Tok.mv · 19),0,0):=by
 have hl:(frQ++rep enQ n).length<=20000:=by rw[Vj,Qbg]; simp[frQ,enQ]; omega
 rw[Qjc hl (by rw[QtX,QlQ,Vj,Yl,Qnn]; simp[QdJ]; omega),QtX,Qjo,QlQ];rfl
theorem Qes.mv {t:Tok} {k:TK} (h:Qes t k) (d:Nat):Qes (t.mv d) k:=by cases k<;>exact h
theorem Qbp.mv {l:List Tok} {ks:List TK} (h:Qbp l ks) (d:Nat):Qbp (l.map (Tok.mv · d)) ks:=by
 induction h with
 |nil=>exact .nil
 |cons h1 _ ih=>exact .cons (h1.mv d) ih
theorem Qbp.app {l l':List Tok} {ks ks':List TK} (h:Qbp l ks) (h':Qbp l' ks'):Qbp (l++l') (ks++ks'):=by
 induction h with
 |nil=>exact h'
 |cons h1 _ ih=>exact .cons h1 ih
theorem Qxl:Qbp QfW eTk:=by
 refine .cons ⟨rfl,rfl⟩ (.cons ⟨rfl,rfl⟩ (.cons ⟨rfl,rfl⟩ (.cons ⟨rfl,rfl⟩ (.cons ⟨rfl,rfl⟩ (.cons ⟨rfl,rfl⟩ .nil)))))
def fTk:List TK:=[.wd [103,97,109,101],.wd [103],.sg [59],.wd [112,108,97,121,101,114,115],.nm 1,.sg [59]]
theorem QCb:Qbp QdJ fTk:=by
 refine .cons ⟨rfl,rfl⟩ (.cons ⟨rfl,rfl⟩ (.cons ⟨rfl,rfl⟩ (.cons ⟨rfl,rfl⟩ (.cons ⟨rfl,rfl⟩ (.cons ⟨rfl,rfl⟩ .nil)))))
theorem Qq2:∀ n,Qbp (Qb6 n) (QbA n)
 |0=>.nil
 |n+1=>Qxl.app ((Qq2 n).mv 15)
theorem QxE (n:Nat):Qbp (QdJ++(Qb6 n).map (Tok.mv · 19)) (fTk++QbA n):=QCb.app ((Qq2 n).mv 19)
theorem Qo5:∀ (n k:Nat),k<n->((Qb6 n)[6*k]?).map (·.p)=some (15*k)
 |0,k,h=>by omega
 |n+1,0,h=>rfl
 |n+1,k+1,h=>by
  rw[Qb6,Vl (by simp[QfW]; omega)];have:6*(k+1)-QfW.length=6*k:=by simp[QfW]; omega
  rw[this,Vp,Y4];have ih:=Qo5 n k (by omega)
  cases hx:(Qb6 n)[6*k]? with
  |none=>rw[hx]at ih; cases ih
  |some t =>
   rw[hx]at ih;simp only[VG,Option.some.injEq]at ih;simp only[VG,Function.comp,Tok.mv,ih,Option.some.injEq];omega
end Go.Proofs.YtmkdpmfhlfhjkaaGreatDoor
