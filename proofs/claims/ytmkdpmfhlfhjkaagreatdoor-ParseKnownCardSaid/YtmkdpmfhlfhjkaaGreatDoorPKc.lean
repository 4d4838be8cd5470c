/-
  Steps of the proof: contracts of functions and plain facts that the statement rests on.
-/
import Derived.Test.YtmkdpmfhlfhjkaaGreatDoorPKb
set_option linter.all false
namespace Go.Proofs.YtmkdpmfhlfhjkaaGreatDoor
open Go.Ab
theorem pair_of {α β:Type} {x:α×β} {b:β} (h:x.2=b):x=(x.1,b):=by rw[←h]
section
variable {H:List AO}
theorem shown_ok {tx w:List UInt8} (hl:tx.length<4611686018427387904) (h1:(exprR tx).2=(0,0)) (h2:prpB (exprR tx).1=true) (h3:prE (exprR tx).1 []=w) (h4:(exprR w).2=(0,0)) (hw:w.length≤20000)
 (hc:cstE (exprR tx).1<1000000000-1):Ok Tryz.prog 17 [st (B tx),st (B w)] H (.ret (bl true)) H:=by
 have hs:shwR (exprR tx).1=(w,0):=by
  unfold shwR
  rw[h3,if_neg (by omega),if_neg (by rw[h4]; simp)]
 have h:=ok17 (H:=H) (w:=w) hl (pair_of h1) (prp_of h2) hc (by rw[h3]; omega) hs
 simpa using h
end
theorem sw0 {H:List AO}:Ok Tryz.prog 17 [st (B [49,32,43,32,50,32,42,32,120]),st (B [49,32,43,32,40,50,32,42,32,120,41])] H (.ret (bl true)) H :=
 shown_ok (by decide) (by kernel_rfl) (by kernel_rfl) (by kernel_rfl) (by kernel_rfl) (by decide) (of_decide_eq_true (by kernel_rfl))
theorem sw1 {H:List AO}:Ok Tryz.prog 17 [st (B [110,111,116,32,97,32,61,61,32,98]),st (B [110,111,116,32,40,97,32,61,61,32,98,41])] H (.ret (bl true)) H :=
 shown_ok (by decide) (by kernel_rfl) (by kernel_rfl) (by kernel_rfl) (by kernel_rfl) (by decide) (of_decide_eq_true (by kernel_rfl))
theorem sw2 {H:List AO}:Ok Tryz.prog 17 [st (B [45,32,45,32,49]),st (B [45,32,40,45,32,49,41])] H (.ret (bl true)) H :=
 shown_ok (by decide) (by kernel_rfl) (by kernel_rfl) (by kernel_rfl) (by kernel_rfl) (by decide) (of_decide_eq_true (by kernel_rfl))
theorem sw3 {H:List AO}:Ok Tryz.prog 17 [st (B [105,102,40,97,32,60,32,49,44,32,50,44,32,109,105,110,40,51,44,32,98,41,41]),st (B [105,102,40,97,32,60,32,49,44,32,50,44,32,109,105,110,40,51,44,32,98,41,41])] H (.ret (bl true)) H :=
 shown_ok (by decide) (by kernel_rfl) (by kernel_rfl) (by kernel_rfl) (by kernel_rfl) (by decide) (of_decide_eq_true (by kernel_rfl))
theorem fw0 {H:List AO}:Ok Tryz.prog 18 [st (B [49,32,43]),i64 11,i64 3] H (.ret (bl true)) H:=ok18 (by decide) (by kernel_rfl)
theorem fw1 {H:List AO}:Ok Tryz.prog 18 [st (B [97,32,60,32,98,32,60,32,99]),i64 11,i64 6] H (.ret (bl true)) H:=ok18 (by decide) (by kernel_rfl)
theorem fw2 {H:List AO}:Ok Tryz.prog 18 [st (B [105,110]),i64 11,i64 0] H (.ret (bl true)) H:=ok18 (by decide) (by kernel_rfl)
theorem fw3 {H:List AO}:Ok Tryz.prog 18 [st (B [49,32,50]),i64 11,i64 2] H (.ret (bl true)) H:=ok18 (by decide) (by kernel_rfl)
theorem fw4 {H:List AO}:Ok Tryz.prog 18 [st (B (rep [40] 41++[49]++rep [41] 41)),i64 5,i64 40] H (.ret (bl true)) H:=ok18 (by simp[rep_len]) (by kernel_rfl)
theorem sw4 {H:List AO}:Ok Tryz.prog 17 [st (B (rep [40] 40++[49]++rep [41] 40)),st (B [49])] H (.ret (bl true)) H :=
 shown_ok (by simp[rep_len]) (by kernel_rfl) (by kernel_rfl) (by kernel_rfl) (by kernel_rfl) (by decide) (of_decide_eq_true (by kernel_rfl))
def gR:RulesP:=⟨[103],2,[],[⟨3,[],[],0,0,[],false,[],[],[],[.mk 1 1 [] [] 29,.mk 9 0 [] [.mk 1 0 [] [] 32,.mk 1 1 [] [] 36] 34],19⟩]⟩
theorem gp:parseR [103,97,109,101,32,103,59,32,112,108,97,121,101,114,115,32,50,59,32,101,110,100,32,123,32,112,97,121,32,49,44,32,48,32,45,32,49,59,32,125]=(gR,0,0):=by kernel_rfl
def gW:List UInt8:=[103,97,109,101,32,103,59,10,112,108,97,121,101,114,115,32,50,59,10,101,110,100,32,123,32,112,97,121,32,49,44,32,48,32,45,32,49,59,32,125,10]
theorem gw:rulW gR []=gW:=by kernel_rfl
theorem gq:(parseR gW).2=(0,0):=by kernel_rfl
theorem gn:namB [103]=true:=by kernel_rfl
theorem gpay:prpLB [.mk 1 1 [] [] 29,.mk 9 0 [] [.mk 1 0 [] [] 32,.mk 1 1 [] [] 36] 34]=true:=by kernel_rfl
theorem gprp:gR.prp:=by
 refine⟨⟨by simp[gR],gn⟩,⟨by simp[gR],by simp[gR]⟩,?_,by simp[gR],?_,by simp[gR],by simp[gR]⟩
 · intro v hv; simp[gR]at hv
 · intro x hx
   simp only[gR,List.mem_singleton]at hx
   subst hx
   refine⟨.inl rfl,.inr (.inr ⟨rfl,?_⟩)⟩
   refine⟨by simp,⟨by simp,prpL_iff.1 (prpL_of gpay),of_decide_eq_true (by kernel_rfl)⟩,rfl,rfl,rfl,rfl,rfl,rfl,rfl,rfl⟩
theorem gprn:prnR gR=(gW,0):=by
 unfold prnR
 rw[gw,if_neg (by decide),if_neg (by rw[gq]; simp)]
theorem p1:(parseR [103,97,109,101,32,103,59,32,112,108,97,121,101,114,115,32,50,59]).2=(11,18):=by kernel_rfl
theorem p2:(parseR [103,97,109,101,32,103,97,109,101,59]).2=(11,5):=by kernel_rfl
theorem p3:(parseR []).2=(11,0):=by kernel_rfl
def fr:List UInt8:=[103,97,109,101,32,103,59,32,112,108,97,121,101,114,115,32,49,59,32]
def en:List UInt8:=[101,110,100,32,123,32,112,97,121,32,48,59,32,125,32]
theorem pl:(parseR (fr++[116,117,114,110,32,48,32,123,32]++rep [97,99,116,105,111,110,32,97,32,123,32,125,32] 10++[125,32]++en)).2=(0,0):=by kernel_rfl
theorem pm:(parseR (fr++[116,117,114,110,32,48,32,123,32]++rep [97,99,116,105,111,110,32,97,32,123,32,125,32] 11++[125,32]++en)).2=(12,158):=by kernel_rfl
theorem po:(parseR (fr++[101,110,100,32,123,32,112,97,121,32,48]++rep [44,48] 31++[59,32,125])).2=(0,0):=by kernel_rfl
theorem pp':(parseR (fr++[101,110,100,32,123,32,112,97,121,32,48]++rep [44,48] 32++[59,32,125])).2=(12,93):=by kernel_rfl
end Go.Proofs.YtmkdpmfhlfhjkaaGreatDoor
