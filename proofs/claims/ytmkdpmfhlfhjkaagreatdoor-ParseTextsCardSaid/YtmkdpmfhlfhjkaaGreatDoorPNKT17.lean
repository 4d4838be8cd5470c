/-
  Steps of the proof: contracts of functions and plain facts that the statement rests on.
-/
import Derived.Test.YtmkdpmfhlfhjkaaGreatDoorPNKT16
set_option linter.all false
namespace Go.Proofs.YtmkdpmfhlfhjkaaGreatDoor
open Go.Ab
def nxV (l:List UInt8) (p:Nat):SV :=
 match stepT l p with
 | .tok t q=>.tup [t.v,i64 q,fltV 0 0]
 | .flt e=>.tup [zT,i64 p,fltV e p]
 | .skip _=>.any
def okP (l:List UInt8) (p:Nat):Prop:=¬ (cAt l p=2∧0<p∧cAt l (p-1)=3)
section
variable {H:List AO} {l:List UInt8}
theorem cut_ne {p q:Nat} (h:p<q) (hq:q≤l.length):cut l p q≠[]:=fun e=>by have:=cut_len (l:=l) (Nat.le_of_lt h) hq; rw[e,List.length_nil]at this; omega
theorem dbl_iff (r:List UInt8):isDbl r=true↔r.take 2∈dbls:=by
 have h2:∀ p∈dbls,p.length=2:=by decide
 unfold isDbl
 rw[List.any_eq_true]
 constructor
 · rintro⟨d,hd,hp⟩
   have:=List.prefix_iff_eq_take.1 (List.isPrefixOf_iff_prefix.1 hp)
   rw[h2 d hd]at this
   rw[←this]; exact hd
 · intro h
   exact⟨_,h,List.isPrefixOf_iff_prefix.2 (List.take_prefix 2 r)⟩
theorem mk0 {p:Nat} {k:Int}:mkStp l p k p=.flt 11:=by
 have hc:cut l p p=[]:=by simp[cut]
 have:whE l k (cut l p p) p=(11,0):=by unfold whE; rw[if_pos (.inl hc)]
 unfold mkStp
 rw[this]; simp
theorem mk3 {p q:Nat} (h:p<q) (hq:q≤l.length):mkStp l p 3 q=.tok ⟨3,cut l p q,0,p⟩ q:=by
 have:whE l 3 (cut l p q) p=(0,0):=by
  unfold whE
  rw[if_neg (by rintro(h1 | h1); exact cut_ne h hq h1; exact absurd h1.1 (by decide)),if_neg (fun h=>absurd h.1 (by decide)),if_pos (by decide)]
 unfold mkStp
 rw[this]; simp
theorem st_st (s:ByteArray):[SV.gd true (st s)].map SV.strip=[st s]:=by simp only[List.map_cons,List.map_nil,SV.strip,st]
theorem ok82 (hl:l.length<4611686018427387904) {p:Nat} (hp:p<l.length) (hw:cAt l p≠1) (hc:l.getD p 0≠35) (ho:okP l p):Ok Tryz.prog 82 [st (B l),i64 p] H (.ret (nxV l p)) H:=by
 refine ok_fn hm Tryz.func82 c82 (by simp) fun hcl => ?_
 have hb:l[p].toNat<256:=l[p].toNat_lt
 have hg:l.getD p 0=l[p]:=by simp[hp]
 obtain⟨q2,q3,q1,q4⟩:=cls_at hb
 rw[←cAt_get hp]at q1 q2 q3 q4
 simp -implicitDefEqProofs[i82,r82,hp]
 refine call_go (ok83 _ hb) ?_
 by_cases c2:cAt l p=2
 · have hL:=q2.1 c2
   have hs:stepT l p=mkStp l p 1 (runE l [2,3] p):=by simp[stepT,c2]
   have hlt:p<runE l [2,3] p:=by rw[runE_step hp (by rw[c2]; simp)]; have:=runE_le (l:=l) (cs:=[2,3]) (p+1); omega
   have hle:runE l [2,3] p≤l.length:=runE_len (by omega)
   generalize hq:runE l [2,3] p=q at hs hlt hle
   have hne:=cut_ne hlt hle
   have hlen:=cut_len (l:=l) (Nat.le_of_lt hlt) hle
   have hwh:whE l 1 (cut l p q) p=if 40<q-p then(4,0)else(0,0):=by
    unfold whE
    rw[if_neg (by rintro(h | h); exact hne h; exact ho ⟨c2,h.2⟩),hlen]
    split
    · rename_i h; rw[if_pos h.2]
    · rename_i h; rw[if_neg (fun h2=>h ⟨rfl,h2⟩),if_pos (by decide)]
   have w:IntKind.i64.wrap ((q:Int)-(p:Int))=((q-p:Nat):Int):=by rw[wrap_id (by omega) (by omega)]; omega
   simp -implicitDefEqProofs[hL]
   refine loop82_0 hl (p:=p) (x4:=.ptr (.own H.length 0 0 0 0) 0) (x6:=.ptr (.own (H.length+1) 0 0 0 0) 0) (fun env h0 h1 h4 h6 h7 => ?_) (l.length-p) p _ (by omega) rfl (by simp) (by simp) (by simp) (by simp) (by simp)
   rw[hq]at h7
   simp -implicitDefEqProofs[h0,h1,h4,h6,h7,w]
   split
   · rename_i h40
     have hr:nxV l p=.tup [zT,i64 p,fltV 4 p]:=by unfold nxV; rw[hs]; unfold mkStp; rw[show whE l 1 (cut l p q) p=(4,0)by rw[hwh,if_pos (by omega)]]; simp
     rw[hr]
     exact cv_fz 4 hcl rfl (by simp[zT,fltV])
   · rename_i h40
     have hr:nxV l p=.tup [.agg [i64 1,st (B (cut l p q)),i64 0,i64 p],i64 q,fltV 0 0]:=by unfold nxV; rw[hs]; unfold mkStp; rw[show whE l 1 (cut l p q) p=(0,0)by rw[hwh,if_neg (by omega)]]; simp[Tok.v,Tok.c]
     rw[hr]
     exact⟨⟨by omega,by omega⟩,cv_fz 4 hcl rfl (by simp[cut,fltV])⟩
 · have hL:ltrB l[p].toNat=false:=by rw[←Bool.not_eq_true]; exact fun h=>c2 (q2.2 h)
   simp -implicitDefEqProofs[hL,hp]
   refine call_go (ok141 _ hb) ?_
   by_cases c3:cAt l p=3
   · have hD:=q3.1 c3
     have hs:stepT l p=mkStp l p 2 (runE l [3] p):=by simp[stepT,c3]
     have hlt:p<runE l [3] p:=by rw[runE_step hp (by rw[c3]; simp)]; have:=runE_le (l:=l) (cs:=[3]) (p+1); omega
     have hle:runE l [3] p≤l.length:=runE_len (by omega)
     have hdg:=run_digits (l:=l) (p:=p)
     generalize hq:runE l [3] p=q at hs hlt hle hdg
     have hne:=cut_ne hlt hle
     have hlen:=cut_len (l:=l) (Nat.le_of_lt hlt) hle
     have hwh:whE l 2 (cut l p q) p=numW (cut l p q):=by
      unfold whE numW
      rw[if_neg (by rintro(h | h); exact hne h; exact absurd h.1 (by decide)),if_neg (fun h=>absurd h.1 (by decide)),if_neg (by decide)]
     simp -implicitDefEqProofs[hD]
     refine loop82_1 hl (p:=p) (x4:=.ptr (.own H.length 0 0 0 0) 0) (x6:=.ptr (.own (H.length+1) 0 0 0 0) 0) (fun env h0 h1 h4 h6 h7 => ?_) (l.length-p) p _ (by omega) rfl (by simp) (by simp) (by simp) (by simp) (by simp)
     rw[hq]at h7
     have hcut:(l.drop p).take (q-p)=cut l p q:=rfl
     simp -implicitDefEqProofs[h0,h1,h4,h6,h7,hcut]
     refine⟨⟨by omega,by omega⟩,call_go (ok142 hdg hne (by omega)) ?_⟩
     by_cases he:(numW (cut l p q)).1=0
     · have hr:nxV l p=.tup [.agg [i64 2,st (B (cut l p q)),i64 (numW (cut l p q)).2,i64 p],i64 q,fltV 0 0]:=by unfold nxV; rw[hs]; unfold mkStp; rw[hwh,if_neg (by omega)]; simp[Tok.v,Tok.c]
       rw[hr]
       simp -implicitDefEqProofs[h0,h1,h4,h6,h7,he,hcut]
       exact⟨⟨by omega,by omega⟩,cv_fz 4 hcl rfl (by simp[fltV])⟩
     · have hr:nxV l p=.tup [zT,i64 p,fltV (numW (cut l p q)).1 p]:=by unfold nxV; rw[hs]; unfold mkStp; rw[hwh,if_pos he]
       rw[hr]
       simp -implicitDefEqProofs[h0,h1,h4,h6,h7,he]
       exact cv_fz 4 hcl rfl (by simp[zT,fltV])
   · have hD:dgtB l[p].toNat=false:=by rw[←Bool.not_eq_true]; exact fun h=>c3 (q3.2 h)
     have w2:IntKind.i64.wrap ((p:Int)+2)=((p+2:Nat):Int):=by rw[wrap_id (by omega) (by omega)]; rfl
     have w1:IntKind.i64.wrap ((p:Int)+1)=((p+1:Nat):Int):=by rw[wrap_id (by omega) (by omega)]; rfl
     have tn2:((p:Int)+2).toNat=p+2:=by omega
     have tn1:((p:Int)+1).toNat=p+1:=by omega
     have hdb:=dbl_iff (l.drop p)
     have hc2l:(l.drop p).take 2∈dbls->p+2≤l.length:=by
      intro h
      have h2:∀ p∈dbls,p.length=2:=by decide
      have:=h2 _ h
      simp at this; omega
     have single:¬ (l.drop p).take 2∈dbls->nxV l p=(if l[p]∈sgls then .tup [.agg [i64 3,st (B (cut l p (p+1))),i64 0,i64 p],i64 ((p+1:Nat):Int),fltV 0 0]else .tup [zT,i64 p,fltV 11 p]):=by
      intro hnd
      have hnb:isDbl (l.drop p)=false:=by rw[←Bool.not_eq_true]; exact fun h=>hnd (hdb.1 h)
      have hsg:l[p]∈sgls↔l[p].toNat∈([123,125,40,41,58,59,44,43,45,42,47,37,60,62,61]:List Nat):=by
       have e:([123,125,40,41,58,59,44,43,45,42,47,37,60,62,61]:List Nat)=sgls.map UInt8.toNat:=by decide
       rw[e,List.mem_map]
       exact⟨fun h=>⟨_,h,rfl⟩,fun⟨c,h1,h2⟩=>by rw[←UInt8.toNat_inj.1 h2]; exact h1⟩
      by_cases c4:cAt l p=4
      · have hs:stepT l p=mkStp l p 3 (signE l p):=by simp[stepT,c4]
        by_cases h33:l[p]=33∨l[p]=46
        · have hse:signE l p=p:=by unfold signE; rw[hnb,if_neg (by simp),hg,if_pos h33]
          have hns:l[p]∉sgls:=by rcases h33 with h | h<;>rw[h]<;>decide
          unfold nxV
          rw[hs,hse,mk0,if_neg hns]
        · have hse:signE l p=p+1:=by unfold signE; rw[hnb,if_neg (by simp),hg,if_neg h33]
          have hys:l[p]∈sgls:=by
           rcases q4.1 c4 with h | h
           · exact absurd (h.imp (fun h=>UInt8.toNat_inj.1 h) (fun h=>UInt8.toNat_inj.1 h)) h33
           · exact hsg.2 h
          unfold nxV
          rw[hs,hse,mk3 (by omega) (by omega),if_pos hys]; rfl
      · have hs:stepT l p=mkStp l p 0 p:=by unfold stepT; rw[if_neg hw,if_neg c2,if_neg c3,if_neg c4,if_neg hc]
        have hns:l[p]∉sgls:=fun h=>c4 (q4.2 (.inr (hsg.1 h)))
        unfold nxV
        rw[hs,mk0,if_neg hns]
     by_cases hp2:p+2≤l.length
     · have hp2':(p:Int)+2≤l.length:=by omega
       simp -implicitDefEqProofs[hD,w2,w1,tn2,hp2',hp2]
       refine⟨by omega,callq_st (r:=bl (decide ((l.drop p).take 2∈dbls))) (fun _=>by rw[st_st]; exact ok143 _) ?_⟩
       by_cases hd:(l.drop p).take 2∈dbls
       · have hr:nxV l p=.tup [.agg [i64 3,st (B (cut l p (p+2))),i64 0,i64 p],i64 ((p+2:Nat):Int),fltV 0 0]:=by
          have c4:cAt l p=4:=by
           have:∀ d∈dbls,cls (d.getD 0 0).toNat=4:=by decide
           have h:=this _ hd
           rw[cAt_get hp]
           have e:((l.drop p).take 2).getD 0 0=l[p]:=by rw[List.drop_eq_getElem_cons hp]; rfl
           rw[e]at h; exact h
          have hs:stepT l p=mkStp l p 3 (signE l p):=by simp[stepT,c4]
          have hse:signE l p=p+2:=by unfold signE; rw[if_pos (hdb.2 hd)]
          unfold nxV
          rw[hs,hse,mk3 (by omega) (by omega)]; rfl
         rw[hr]
         simp -implicitDefEqProofs[hd,hp2',hp2,w2,tn2]
         exact⟨by omega,cv_fz 4 hcl rfl (by simp[cut,fltV])⟩
       · rw[single hd]
         simp -implicitDefEqProofs[hd]
         refine call_go (ok144 l[p]) ?_
         simp -implicitDefEqProofs[w1,tn1]
         split
         · exact⟨⟨by omega,by omega⟩,cv_fz 4 hcl rfl (by simp[cut,fltV, *])⟩
         · exact cv_fz 4 hcl rfl (by simp[zT,fltV, *])
     · have hp2':¬ (p:Int)+2≤l.length:=by omega
       have hd:¬ (l.drop p).take 2∈dbls:=fun h=>hp2 (hc2l h)
       simp -implicitDefEqProofs[hD,w2,w1,tn2,hp2',hp2]
       refine callq_go (r:=bl false) (fun h=>by cases h) ?_
       rw[single hd]
       simp -implicitDefEqProofs
       refine call_go (ok144 l[p]) ?_
       simp -implicitDefEqProofs[w1,tn1]
       split
       · exact⟨⟨by omega,by omega⟩,cv_fz 4 hcl rfl (by simp[cut,fltV, *])⟩
       · exact cv_fz 4 hcl rfl (by simp[zT,fltV, *])
end
end Go.Proofs.YtmkdpmfhlfhjkaaGreatDoor
