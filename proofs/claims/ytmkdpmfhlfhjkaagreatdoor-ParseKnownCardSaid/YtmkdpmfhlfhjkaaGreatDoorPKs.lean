/-
  Steps of the proof: contracts of functions and plain facts that the statement rests on.
-/
import Derived.Test.YtmkdpmfhlfhjkaaGreatDoorPKt
set_option linter.all false
namespace Go.Proofs.YtmkdpmfhlfhjkaaGreatDoor
open Go.Ab
section
variable {a b:List UInt8}
theorem evs_leftS (hn:(35:UInt8)∉a):∀ (n m p:Nat),p≤a.length->a.length≤p+n->(a++32::b).length≤p+m →
 evs (a++32::b) m p=evs a n p++bif bad (evs a n p)then []else evs (a++32::b) m a.length
 | n,0,p,h,h2,h3=>by simp at h3; omega
 | 0,m+1,p,h,h2,h3=>by
  have e:p=a.length:=by omega
  subst e
  simp[evs,bad]
 | n+1,m+1,p,h,h2,h3=>by
  by_cases hp:p<a.length
  · have hs:stepT (a++32::b) p=stepT a p:=stepT_left (.inr rfl) hp (.inr (by
     intro h
     apply hn
     rw[List.getD_eq_getElem?_getD,List.getElem?_eq_getElem hp]at h
     simp only[Option.getD_some]at h
     rw[←h]; exact List.getElem_mem hp))
    have hl:p<(a++32::b).length:=by simp; omega
    have hf:evs (a++32::b) (m+1) a.length=evs (a++32::b) m a.length:=evs_fuel _ _ _ (by simp at h3 ⊢; omega) (by simp at h3 ⊢; omega)
    rw[hf]
    cases hst:stepT a p with
    | skip q =>
     have:=stepT_lt hp hst
     have e1:evs a (n+1) p=evs a n q:=by simp only[evs]; rw[if_pos hp,hst]
     have e2:evs (a++32::b) (m+1) p=evs (a++32::b) m q:=by simp only[evs]; rw[if_pos hl,hs,hst]
     rw[e1,e2]
     exact evs_leftS hn n m q (by omega) (by omega) (by simp at h3 ⊢; omega)
    | tok t q =>
     have:=mkq hst hp
     have e1:evs a (n+1) p=.tok t::evs a n q:=by simp only[evs]; rw[if_pos hp,hst]
     have e2:evs (a++32::b) (m+1) p=.tok t::evs (a++32::b) m q:=by simp only[evs]; rw[if_pos hl,hs,hst]
     rw[e1,e2]
     simp only[List.cons_append,bad]
     rw[evs_leftS hn n m q (by omega) (by omega) (by simp at h3 ⊢; omega)]
    | flt e =>
     have e1:evs a (n+1) p=[.flt e p]:=by simp only[evs]; rw[if_pos hp,hst]
     have e2:evs (a++32::b) (m+1) p=[.flt e p]:=by simp only[evs]; rw[if_pos hl,hs,hst]
     rw[e1,e2]
     simp[bad]
  · have e:p=a.length:=by omega
    subst e
    have:evs a (n+1) a.length=[]:=by simp only[evs]; rw[if_neg (by omega)]
    rw[this]
    simp[bad]
theorem evsT_joinS (hn:(35:UInt8)∉a) (hb:bad (evsT a)=false):evsT (a++32::b)=evsT a++(evsT b).map (Ev.mv (a.length+1)):=by
 have h:=evs_leftS (a:=a) (b:=b) hn a.length (a++32::b).length 0 (by omega) (by omega) (by omega)
 have e:(a++32::b).length=(a.length+b.length)+1:=by simp; omega
 rw[e,evs_white (by rfl) _ (by omega)]at h
 rw[←e]at h
 have h2:evsT (a++32::b)=evsT a++bif bad (evsT a)then []else(evsT b).map (Ev.mv (a.length+1)):=h
 rw[h2,hb]; rfl
end
theorem rep_cons (s:List UInt8):∀ n,rep s (n+1)=s++rep s n
 | 0=>by simp[rep]
 | n+1=>by
  show rep s (n+1)++s=s++(rep s n++s)
  rw[rep_cons s n,List.append_assoc]
def en1:List UInt8:=[101,110,100,32,123,32,112,97,121,32,48,59,32,125]
def fr1:List UInt8:=[103,97,109,101,32,103,59,32,112,108,97,121,101,114,115,32,49,59]
def enQ:List UInt8:=[101,110,100,32,123,32,112,97,121,32,48,59,32,125,32]
def frQ:List UInt8:=[103,97,109,101,32,103,59,32,112,108,97,121,101,114,115,32,49,59,32]
def eTok:List Tok:=[⟨1,[101,110,100],0,0⟩,⟨3,[123],0,4⟩,⟨1,[112,97,121],0,6⟩,⟨2,[48],0,10⟩,⟨3,[59],0,11⟩,⟨3,[125],0,13⟩]
def fTok:List Tok:=[⟨1,[103,97,109,101],0,0⟩,⟨1,[103],0,5⟩,⟨3,[59],0,6⟩,⟨1,[112,108,97,121,101,114,115],0,8⟩,⟨2,[49],1,16⟩,⟨3,[59],0,17⟩]
theorem ev_en:evsT en1=eTok.map Ev.tok:=by kernel_rfl
theorem ev_fr:evsT fr1=fTok.map Ev.tok:=by kernel_rfl
def endT':Nat->List Tok
 | 0=>[]
 | n+1=>eTok++(endT' n).map (Tok.mv · 15)
theorem map_mv_tok (d:Nat) (l:List Tok):(l.map Ev.tok).map (Ev.mv d)=(l.map (Tok.mv · d)).map Ev.tok:=by
 rw[List.map_map,List.map_map]; rfl
theorem bad_tok:∀ l:List Tok,bad (l.map Ev.tok)=false
 | []=>rfl
 | t::l=>by simp only[List.map_cons,bad]; exact bad_tok l
theorem toks_tok:∀ l:List Tok,toks (l.map Ev.tok)=l
 | []=>rfl
 | t::l=>by simp only[List.map_cons,toks]; rw[toks_tok l]
theorem ev_ends:∀ n,evsT (rep enQ n)=(endT' n).map Ev.tok
 | 0=>rfl
 | n+1=>by
  have e:rep enQ (n+1)=en1++32::rep enQ n:=by rw[rep_cons]; rfl
  rw[e,evsT_joinS (by decide) (by rw[ev_en]; exact bad_tok _),ev_en,ev_ends n,endT',List.map_append]
  congr 1
  exact map_mv_tok 15 _
theorem ev_all (n:Nat):evsT (frQ++rep enQ n)=(fTok++(endT' n).map (Tok.mv · 19)).map Ev.tok:=by
 have e:frQ++rep enQ n=fr1++32::rep enQ n:=rfl
 rw[e,evsT_joinS (by decide) (by rw[ev_fr]; exact bad_tok _),ev_fr,ev_ends n,List.map_append]
 congr 1
 exact map_mv_tok 19 _
theorem endT_len:∀ n,(endT' n).length=6*n
 | 0=>rfl
 | n+1=>by rw[endT',List.length_append,List.length_map,endT_len n]; simp[eTok]; omega
theorem scan_all {n:Nat} (hn:n≤800):scanG (frQ++rep enQ n)=(fTok++(endT' n).map (Tok.mv · 19),0,0):=by
 have hl:(frQ++rep enQ n).length≤20000:=by rw[List.length_append,rep_len]; simp[frQ,enQ]; omega
 rw[scan_short2 hl (by rw[ev_all,toks_tok,List.length_append,List.length_map,endT_len]; simp[fTok]; omega),ev_all,bad_tok,toks_tok]
 rfl
theorem Fits.mv {t:Tok} {k:TK} (h:Fits t k) (d:Nat):Fits (t.mv d) k:=by cases k<;>exact h
theorem All2.mv {l:List Tok} {ks:List TK} (h:All2 l ks) (d:Nat):All2 (l.map (Tok.mv · d)) ks:=by
 induction h with
 | nil=>exact .nil
 | cons h1 _ ih=>exact .cons (h1.mv d) ih
theorem All2.app {l l':List Tok} {ks ks':List TK} (h:All2 l ks) (h':All2 l' ks'):All2 (l++l') (ks++ks'):=by
 induction h with
 | nil=>exact h'
 | cons h1 _ ih=>exact .cons h1 ih
theorem eTok_fits:All2 eTok eTk:=by
 refine .cons ⟨rfl,rfl⟩ (.cons ⟨rfl,rfl⟩ (.cons ⟨rfl,rfl⟩ (.cons ⟨rfl,rfl⟩ (.cons ⟨rfl,rfl⟩ (.cons ⟨rfl,rfl⟩ .nil)))))
def fTk:List TK:=[.wd [103,97,109,101],.wd [103],.sg [59],.wd [112,108,97,121,101,114,115],.nm 1,.sg [59]]
theorem fTok_fits:All2 fTok fTk:=by
 refine .cons ⟨rfl,rfl⟩ (.cons ⟨rfl,rfl⟩ (.cons ⟨rfl,rfl⟩ (.cons ⟨rfl,rfl⟩ (.cons ⟨rfl,rfl⟩ (.cons ⟨rfl,rfl⟩ .nil)))))
theorem ends_fit:∀ n,All2 (endT' n) (eTks n)
 | 0=>.nil
 | n+1=>eTok_fits.app ((ends_fit n).mv 15)
theorem all_fit (n:Nat):All2 (fTok++(endT' n).map (Tok.mv · 19)) (fTk++eTks n):=fTok_fits.app ((ends_fit n).mv 19)
theorem end_at:∀ (n k:Nat),k<n->((endT' n)[6*k]?).map (·.p)=some (15*k)
 | 0,k,h=>by omega
 | n+1,0,h=>rfl
 | n+1,k+1,h=>by
  rw[endT',List.getElem?_append_right (by simp[eTok]; omega)]
  have:6*(k+1)-eTok.length=6*k:=by simp[eTok]; omega
  rw[this,List.getElem?_map,Option.map_map]
  have ih:=end_at n k (by omega)
  cases hx:(endT' n)[6*k]? with
  | none=>rw[hx]at ih; cases ih
  | some t =>
   rw[hx]at ih
   simp only[Option.map_some,Option.some.injEq]at ih
   simp only[Option.map_some,Function.comp,Tok.mv,ih,Option.some.injEq]
   omega
end Go.Proofs.YtmkdpmfhlfhjkaaGreatDoor
