/-
  Steps of the proof: contracts of functions and plain facts that the statement rests on.
-/
import Derived.Test.YtmkdpmfhlfhjkaaGreatDoorPKc
import Derived.Test.YtmkdpmfhlfhjkaaGreatDoorPKn
import Derived.Test.YtmkdpmfhlfhjkaaGreatDoorPart6
set_option linter.all false
namespace Go.Proofs.YtmkdpmfhlfhjkaaGreatDoor
open Go.Ab
section
variable {H:List AO}
theorem prs {l:List UInt8} {e p:Int} (hl:l.length≤20000) (h:(parseR l).2=(e,p)):∃ c:List SV,c.length=4∧cellsOk c∧c.take 4=c∧c.drop 4=[]∧∀ H,Ok Tryz.prog 14 [st (B l)] H (.ret (.tup [.agg c,.agg [i64 e,i64 p]])) H:=by
 refine⟨(parseR l).1.c,rc_len _,rc_ok _,rc_take _,rc_drop _,fun H => ?_⟩
 have h14:=ok14 (H:=H) hl
 rw[h]at h14
 exact h14
theorem gpS:∀ H,Ok Tryz.prog 14 [st (B [103,97,109,101,32,103,59,32,112,108,97,121,101,114,115,32,50,59,32,101,110,100,32,123,32,112,97,121,32,49,44,32,48,32,45,32,49,59,32,125])] H (.ret (.tup [.agg gR.c,.agg [i64 0,i64 0]])) H:=fun H=>by
 have h14:=ok14 (H:=H) (l:=[103,97,109,101,32,103,59,32,112,108,97,121,101,114,115,32,50,59,32,101,110,100,32,123,32,112,97,121,32,49,44,32,48,32,45,32,49,59,32,125]) (by decide)
 rw[gp]at h14
 exact h14
theorem gpP:∀ H,Ok Tryz.prog 20 [.agg gR.c] H (.ret (.tup [st (B gW),i64 0])) H:=fun H=>by
 have h:=ok20 (H:=H) gprp (by rw[gw]; decide)
 rw[gprn]at h
 exact h
set_option maxHeartbeats 4000000 in
set_option maxRecDepth 8000 in
theorem law5 (pj:(parseR (fr++rep en 100)).2=(0,0)) (pk:(parseR (fr++rep en 101)).2=(12,1519)):Ok Tryz.prog 5 [] H (.ret (bl true)) H:=by
 have hD:=draw_ok (P:=Tryz.prog) hm
 have gS:=gpS
 have gP:=gpP
 have k1:=rc_len gR
 have k2:=rc_ok gR
 have k3:=rc_take gR
 generalize gR.c=cg at *
 refine ok_WI hm Tryz.func5 c5 (by simp) fun hcl => ?_
 rw[show i5=.seq (IC.nth 0 i5) (.seq (IC.nth 1 i5) (.seq (IC.nth 2 i5) (.seq (IC.nth 3 i5) (.seq (IC.nth 4 i5) (IC.tl 5 i5)))))from rfl]
 generalize ht:IC.tl 5 i5=t
 refine WI.seq hD ?_
 simp -implicitDefEqProofs[IC.nth,i5]
 refine WI.seq hD ?_
 simp -implicitDefEqProofs[IC.nth,i5]
 refine call_go sw0 ?_
 simp -implicitDefEqProofs
 refine callq_st (r:=bl true) (fun _=>sw1) ?_
 simp -implicitDefEqProofs
 refine callq_st (r:=bl true) (fun _=>sw2) ?_
 simp -implicitDefEqProofs
 refine callq_st (r:=bl true) (fun _=>sw3) ?_
 simp -implicitDefEqProofs
 refine WI.keep [1] ?_
 refine WI.seq hD ?_
 simp -implicitDefEqProofs[IC.nth,i5]
 refine call_go fw0 ?_
 simp -implicitDefEqProofs
 refine callq_st (r:=bl true) (fun _=>fw1) ?_
 simp -implicitDefEqProofs
 refine callq_st (r:=bl true) (fun _=>fw2) ?_
 simp -implicitDefEqProofs
 refine callq_st (r:=bl true) (fun _=>fw3) ?_
 simp -implicitDefEqProofs
 refine callq_st (r:=st (B (rep [40] 41))) (fun _=>ok19 [40] (n:=41) (by decide) (by decide)) ?_
 simp -implicitDefEqProofs
 rw[rep_len]
 refine⟨by decide,callq_st (r:=st (B (rep [41] 41))) (fun _=>ok19 [41] (n:=41) (by decide) (by decide)) ?_⟩
 simp -implicitDefEqProofs
 simp only[rep_len]
 refine⟨by decide,callq_st (r:=bl true) (fun _=>by have h:=fun H=>fw4 (H:=H); simp only[List.append_assoc,List.cons_append,List.nil_append]at h; exact h _) ?_⟩
 simp -implicitDefEqProofs
 refine callq_st (r:=st (B (rep [40] 40))) (fun _=>ok19 [40] (n:=40) (by decide) (by decide)) ?_
 simp -implicitDefEqProofs
 rw[rep_len]
 refine⟨by decide,callq_st (r:=st (B (rep [41] 40))) (fun _=>ok19 [41] (n:=40) (by decide) (by decide)) ?_⟩
 simp -implicitDefEqProofs
 simp only[rep_len]
 refine⟨by decide,callq_st (r:=bl true) (fun _=>by have h:=fun H=>sw4 (H:=H); simp only[List.append_assoc,List.cons_append,List.nil_append]at h; exact h _) ?_⟩
 simp -implicitDefEqProofs
 refine WI.keep [1,2] ?_
 refine WI.seq hD ?_
 simp -implicitDefEqProofs[IC.nth,i5]
 refine call_go (gS _) ?_
 simp -implicitDefEqProofs[k1,k3]
 refine⟨k2,?_⟩
 refine WI.keep [1,2,3,4] ?_
 refine WI.seq hD ?_
 simp -implicitDefEqProofs[IC.nth,i5,k1,k3]
 refine call_go (gP _) ?_
 simp -implicitDefEqProofs
 refine WI.keep [1,2,4,5,6] ?_
 subst ht
 rw[show IC.tl 5 i5=.seq (IC.nth 5 i5) (.seq (IC.nth 6 i5) (.seq (IC.nth 7 i5) (.seq (IC.nth 8 i5) (IC.tl 9 i5))))from rfl]
 generalize ht:IC.tl 9 i5=t
 clear gS gP
 obtain⟨c1,a1,b1,d1,f1,g1⟩:=prs (l:=[103,97,109,101,32,103,59,32,112,108,97,121,101,114,115,32,50,59]) (by decide) p1
 refine WI.seq hD ?_
 simp -implicitDefEqProofs[IC.nth,i5]
 refine call_go (g1 _) ?_
 simp -implicitDefEqProofs[a1,d1]
 refine⟨b1,?_⟩
 refine WI.keep [1,2,4,5,6,8] ?_
 simp -implicitDefEqProofs
 obtain⟨c2,a2,b2,d2,f2,g2⟩:=prs (l:=[103,97,109,101,32,103,97,109,101,59]) (by decide) p2
 refine WI.seq hD ?_
 simp -implicitDefEqProofs[IC.nth,i5]
 refine call_go (g2 _) ?_
 simp -implicitDefEqProofs[a2,d2]
 refine⟨b2,?_⟩
 refine WI.keep [1,2,4,5,6,8,10] ?_
 simp -implicitDefEqProofs
 obtain⟨c3,a3,b3,d3,f3,g3⟩:=prs (l:=[]) (by decide) p3
 refine WI.seq hD ?_
 simp -implicitDefEqProofs[IC.nth,i5]
 refine call_go (g3 _) ?_
 simp -implicitDefEqProofs[a3,d3]
 refine⟨b3,?_⟩
 refine WI.keep [1,2,4,5,6,8,10,12] ?_
 simp -implicitDefEqProofs
 refine WI.seq hD ?_
 simp -implicitDefEqProofs[IC.nth,i5,gW]
 refine WI.keep [1,2,13] ?_
 simp -implicitDefEqProofs
 subst ht
 rw[show IC.tl 9 i5=.seq (IC.nth 9 i5) (.seq (IC.nth 10 i5) (.seq (IC.nth 11 i5) (IC.tl 12 i5)))from rfl]
 generalize ht:IC.tl 12 i5=t
 generalize hH1:H++[_,_,_,_,_,_,_,_]=H1
 refine WI.seq hD ?_
 simp -implicitDefEqProofs[IC.nth,i5]
 obtain⟨c11,a11,b11,d11,f11,g11⟩:=prs (l:=103::97::109::101::32::103::59::32::112::108::97::121::101::114::115::32::49::59::32::rep [101,110,100,32,123,32,112,97,121,32,48,59,32,125,32] 100) (by simp[rep_len]) (by have h:=pj; simp only[fr,en,List.append_assoc,List.cons_append,List.nil_append]at h; exact h)
 refine WI.seq hD ?_
 simp -implicitDefEqProofs[IC.nth,i5]
 refine call_go (ok19 [101,110,100,32,123,32,112,97,121,32,48,59,32,125,32] (n:=100) (by decide) (by decide)) ?_
 simp -implicitDefEqProofs
 simp only[rep_len]
 refine⟨by decide,call_go (g11 _) ?_⟩
 simp -implicitDefEqProofs[a11,d11]
 refine⟨b11,?_⟩
 refine WI.keep [1,2,13,14,15,17] ?_
 simp -implicitDefEqProofs
 obtain⟨c12,a12,b12,d12,f12,g12⟩:=prs (l:=103::97::109::101::32::103::59::32::112::108::97::121::101::114::115::32::49::59::32::rep [101,110,100,32,123,32,112,97,121,32,48,59,32,125,32] 101) (by simp[rep_len]) (by have h:=pk; simp only[fr,en,List.append_assoc,List.cons_append,List.nil_append]at h; exact h)
 refine WI.seq hD ?_
 simp -implicitDefEqProofs[IC.nth,i5]
 refine call_go (ok19 [101,110,100,32,123,32,112,97,121,32,48,59,32,125,32] (n:=101) (by decide) (by decide)) ?_
 simp -implicitDefEqProofs
 simp only[rep_len]
 refine⟨by decide,call_go (g12 _) ?_⟩
 simp -implicitDefEqProofs[a12,d12]
 refine⟨b12,?_⟩
 refine WI.keep [1,2,13,14,15,17,19] ?_
 simp -implicitDefEqProofs
 subst ht
 rw[show IC.tl 12 i5=.seq (IC.nth 12 i5) (.seq (IC.nth 13 i5) (.seq (IC.nth 14 i5) (.seq (IC.nth 15 i5) (.seq (IC.nth 16 i5) (.seq (IC.nth 17 i5) (IC.tl 18 i5))))))from rfl]
 generalize ht:IC.tl 18 i5=t
 obtain⟨c13,a13,b13,d13,f13,g13⟩:=prs (l:=103::97::109::101::32::103::59::32::112::108::97::121::101::114::115::32::49::59::32::116::117::114::110::32::48::32::123::32::(rep [97,99,116,105,111,110,32,97,32,123,32,125,32] 10++125::32::101::110::100::32::123::32::112::97::121::32::48::59::32::125::32::[])) (by simp[rep_len]) (by have h:=pl; simp only[fr,en,List.append_assoc,List.cons_append,List.nil_append]at h; exact h)
 refine WI.seq hD ?_
 simp -implicitDefEqProofs[IC.nth,i5]
 refine call_go (ok19 [97,99,116,105,111,110,32,97,32,123,32,125,32] (n:=10) (by decide) (by decide)) ?_
 simp -implicitDefEqProofs
 simp only[rep_len]
 repeat (refine⟨by decide,?_⟩)
 refine call_go (g13 _) ?_
 simp -implicitDefEqProofs[a13,d13]
 refine⟨b13,?_⟩
 refine WI.keep [1,2,13,14,15,17,19,21] ?_
 simp -implicitDefEqProofs
 obtain⟨c14,a14,b14,d14,f14,g14⟩:=prs (l:=103::97::109::101::32::103::59::32::112::108::97::121::101::114::115::32::49::59::32::116::117::114::110::32::48::32::123::32::(rep [97,99,116,105,111,110,32,97,32,123,32,125,32] 11++125::32::101::110::100::32::123::32::112::97::121::32::48::59::32::125::32::[])) (by simp[rep_len]) (by have h:=pm; simp only[fr,en,List.append_assoc,List.cons_append,List.nil_append]at h; exact h)
 refine WI.seq hD ?_
 simp -implicitDefEqProofs[IC.nth,i5]
 refine call_go (ok19 [97,99,116,105,111,110,32,97,32,123,32,125,32] (n:=11) (by decide) (by decide)) ?_
 simp -implicitDefEqProofs
 simp only[rep_len]
 repeat (refine⟨by decide,?_⟩)
 refine call_go (g14 _) ?_
 simp -implicitDefEqProofs[a14,d14]
 refine⟨b14,?_⟩
 refine WI.keep [1,2,13,14,15,17,19,21,23] ?_
 simp -implicitDefEqProofs
 obtain⟨c15,a15,b15,d15,f15,g15⟩:=prs (l:=103::97::109::101::32::103::59::32::112::108::97::121::101::114::115::32::49::59::32::(rep [118,97,114,32,97,32,61,32,49,59,32] 41++101::110::100::32::123::32::112::97::121::32::48::59::32::125::32::[])) (by simp[rep_len]) (by have h:=pn; simp only[fr,en,List.append_assoc,List.cons_append,List.nil_append]at h; exact h)
 refine WI.seq hD ?_
 simp -implicitDefEqProofs[IC.nth,i5]
 refine call_go (ok19 [118,97,114,32,97,32,61,32,49,59,32] (n:=41) (by decide) (by decide)) ?_
 simp -implicitDefEqProofs
 simp only[rep_len]
 repeat (refine⟨by decide,?_⟩)
 refine call_go (g15 _) ?_
 simp -implicitDefEqProofs[a15,d15]
 refine⟨b15,?_⟩
 refine WI.keep [1,2,13,14,15,17,19,21,23,25] ?_
 simp -implicitDefEqProofs
 obtain⟨c16,a16,b16,d16,f16,g16⟩:=prs (l:=103::97::109::101::32::103::59::32::112::108::97::121::101::114::115::32::49::59::32::101::110::100::32::123::32::112::97::121::32::48::(rep [44,48] 31++59::32::125::[])) (by simp[rep_len]) (by have h:=po; simp only[fr,en,List.append_assoc,List.cons_append,List.nil_append]at h; exact h)
 refine WI.seq hD ?_
 simp -implicitDefEqProofs[IC.nth,i5]
 refine call_go (ok19 [44,48] (n:=31) (by decide) (by decide)) ?_
 simp -implicitDefEqProofs
 simp only[rep_len]
 repeat (refine⟨by decide,?_⟩)
 refine call_go (g16 _) ?_
 simp -implicitDefEqProofs[a16,d16]
 refine⟨b16,?_⟩
 refine WI.keep [1,2,13,14,15,17,19,21,23,25,27] ?_
 simp -implicitDefEqProofs
 obtain⟨c17,a17,b17,d17,f17,g17⟩:=prs (l:=103::97::109::101::32::103::59::32::112::108::97::121::101::114::115::32::49::59::32::101::110::100::32::123::32::112::97::121::32::48::(rep [44,48] 32++59::32::125::[])) (by simp[rep_len]) (by have h:=pp'; simp only[fr,en,List.append_assoc,List.cons_append,List.nil_append]at h; exact h)
 refine WI.seq hD ?_
 simp -implicitDefEqProofs[IC.nth,i5]
 refine call_go (ok19 [44,48] (n:=32) (by decide) (by decide)) ?_
 simp -implicitDefEqProofs
 simp only[rep_len]
 repeat (refine⟨by decide,?_⟩)
 refine call_go (g17 _) ?_
 simp -implicitDefEqProofs[a17,d17]
 refine⟨b17,?_⟩
 refine WI.keep [1,2,13,14,15,17,19,21,23,25,27,29] ?_
 simp -implicitDefEqProofs
 refine WI.seq hD ?_
 simp -implicitDefEqProofs[IC.nth,i5]
 refine WI.keep [1,2,13,30] ?_
 simp -implicitDefEqProofs
 subst ht
 refine WI.of_X hD ?_
 simp -implicitDefEqProofs[IC.tl,i5,r5]
 refine call_go ok10 ?_
 simp -implicitDefEqProofs
 subst hH1
 simp only[List.append_assoc]
 exact cv_fz 3 hcl rfl (by simp)
end
end Go.Proofs.YtmkdpmfhlfhjkaaGreatDoor
