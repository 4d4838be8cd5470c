/- Steps of the proof. -/
import Derived.Test.YtmkdpmfhlfhjkaaGreatDoorPKb
set_option linter.all false
namespace Go.Proofs.YtmkdpmfhlfhjkaaGreatDoor
open Go.Ab
theorem QBN {α β:Type} {x:α×β} {b:β} (h:x.2=b):x=(x.1,b):=by rw[<-h]
section
variable {H:ZG}
theorem QhD {tx w:ZE} (hl:tx.length<4611686018427387904) (h1:(QO tx).2=(0,0)) (h2:Qig (QO tx).1=true) (h3:prE (QO tx).1 []=w) (h4:(QO w).2=(0,0)) (hw:w.length<=20000)
 (hc:Qcz (QO tx).1<1000000000-1):Ok Tryz.prog 17 [st (B tx),st (B w)] H (.ret (bl true)) H:=by
 have hs:QeY (QO tx).1=(w,0):=by
  unfold QeY;rw[h3,Zn (by omega),Zn (by rw[h4]; simp)]
 have h:=ok17 (H:=H) (w:=w) hl (QBN h1) (Qnj h2) hc (by rw[h3]; omega) hs;simpa using h
end
theorem sw0 {H:ZG}:Ok Tryz.prog 17 [st (B [49,32,43,32,50,32,42,32,120]),st (B [49,32,43,32,40,50,32,42,32,120,41])] H (.ret (bl true)) H :=
 QhD (by decide) (by kernel_rfl) (by kernel_rfl) (by kernel_rfl) (by kernel_rfl) (by decide) (Zw (by kernel_rfl))
theorem sw1 {H:ZG}:Ok Tryz.prog 17 [st (B [110,111,116,32,97,32,61,61,32,98]),st (B [110,111,116,32,40,97,32,61,61,32,98,41])] H (.ret (bl true)) H :=
 QhD (by decide) (by kernel_rfl) (by kernel_rfl) (by kernel_rfl) (by kernel_rfl) (by decide) (Zw (by kernel_rfl))
theorem sw2 {H:ZG}:Ok Tryz.prog 17 [st (B [45,32,45,32,49]),st (B [45,32,40,45,32,49,41])] H (.ret (bl true)) H :=
 QhD (by decide) (by kernel_rfl) (by kernel_rfl) (by kernel_rfl) (by kernel_rfl) (by decide) (Zw (by kernel_rfl))
theorem sw3 {H:ZG}:Ok Tryz.prog 17 [st (B [105,102,40,97,32,60,32,49,44,32,50,44,32,109,105,110,40,51,44,32,98,41,41]),st (B [105,102,40,97,32,60,32,49,44,32,50,44,32,109,105,110,40,51,44,32,98,41,41])] H (.ret (bl true)) H :=
 QhD (by decide) (by kernel_rfl) (by kernel_rfl) (by kernel_rfl) (by kernel_rfl) (by decide) (Zw (by kernel_rfl))
theorem fw0 {H:ZG}:Ok Tryz.prog 18 [st (B [49,32,43]),i64 11,i64 3] H (.ret (bl true)) H:=QhN (by decide) (by kernel_rfl)
theorem fw1 {H:ZG}:Ok Tryz.prog 18 [st (B [97,32,60,32,98,32,60,32,99]),i64 11,i64 6] H (.ret (bl true)) H:=QhN (by decide) (by kernel_rfl)
theorem fw2 {H:ZG}:Ok Tryz.prog 18 [st (B [105,110]),i64 11,i64 0] H (.ret (bl true)) H:=QhN (by decide) (by kernel_rfl)
theorem fw3 {H:ZG}:Ok Tryz.prog 18 [st (B [49,32,50]),i64 11,i64 2] H (.ret (bl true)) H:=QhN (by decide) (by kernel_rfl)
theorem fw4 {H:ZG}:Ok Tryz.prog 18 [st (B (rep [40] 41++[49]++rep [41] 41)),i64 5,i64 40] H (.ret (bl true)) H:=QhN (by simp[Qbg]) (by kernel_rfl)
theorem sw4 {H:ZG}:Ok Tryz.prog 17 [st (B (rep [40] 40++[49]++rep [41] 40)),st (B [49])] H (.ret (bl true)) H :=
 QhD (by simp[Qbg]) (by kernel_rfl) (by kernel_rfl) (by kernel_rfl) (by kernel_rfl) (by decide) (Zw (by kernel_rfl))
def gR:QC:=⟨[103],2,[],[⟨3,[],[],0,0,[],false,[],[],[],[.mk 1 1 [] [] 29,.mk 9 0 [] [.mk 1 0 [] [] 32,.mk 1 1 [] [] 36] 34],19⟩]⟩
theorem gp:QG [103,97,109,101,32,103,59,32,112,108,97,121,101,114,115,32,50,59,32,101,110,100,32,123,32,112,97,121,32,49,44,32,48,32,45,32,49,59,32,125]=(gR,0,0):=by kernel_rfl
def gW:ZE:=[103,97,109,101,32,103,59,10,112,108,97,121,101,114,115,32,50,59,10,101,110,100,32,123,32,112,97,121,32,49,44,32,48,32,45,32,49,59,32,125,10]
theorem gw:QcE gR []=gW:=by kernel_rfl
theorem gq:(QG gW).2=(0,0):=by kernel_rfl
theorem gn:Qb8 [103]=true:=by kernel_rfl
theorem gpay:QiH [.mk 1 1 [] [] 29,.mk 9 0 [] [.mk 1 0 [] [] 32,.mk 1 1 [] [] 36] 34]=true:=by kernel_rfl
theorem gprp:gR.prp:=by
 refine⟨⟨by simp[gR],gn⟩,⟨by simp[gR],by simp[gR]⟩,?_,by simp[gR],?_,by simp[gR],by simp[gR]⟩
 . intro v hv; simp[gR]at hv
 . intro x hx;simp only[gR,VU]at hx;subst hx;refine⟨.inl rfl,.inr (.inr ⟨rfl,?_⟩)⟩;refine⟨by simp,⟨by simp,Qic.1 (Qmy gpay),Zw (by kernel_rfl)⟩,rfl,rfl,rfl,rfl,rfl,rfl,rfl,rfl⟩
theorem gprn:Qfl gR=(gW,0):=by
 unfold Qfl;rw[gw,Zn (by decide),Zn (by rw[gq]; simp)]
theorem p1:(QG [103,97,109,101,32,103,59,32,112,108,97,121,101,114,115,32,50,59]).2=(11,18):=by kernel_rfl
theorem p2:(QG [103,97,109,101,32,103,97,109,101,59]).2=(11,5):=by kernel_rfl
theorem p3:(QG []).2=(11,0):=by kernel_rfl
def fr:ZE:=[103,97,109,101,32,103,59,32,112,108,97,121,101,114,115,32,49,59,32]
def en:ZE:=[101,110,100,32,123,32,112,97,121,32,48,59,32,125,32]
theorem pl:(QG (fr++[116,117,114,110,32,48,32,123,32]++rep [97,99,116,105,111,110,32,97,32,123,32,125,32] 10++[125,32]++en)).2=(0,0):=by kernel_rfl
theorem pm:(QG (fr++[116,117,114,110,32,48,32,123,32]++rep [97,99,116,105,111,110,32,97,32,123,32,125,32] 11++[125,32]++en)).2=(12,158):=by kernel_rfl
theorem po:(QG (fr++[101,110,100,32,123,32,112,97,121,32,48]++rep [44,48] 31++[59,32,125])).2=(0,0):=by kernel_rfl
theorem pp':(QG (fr++[101,110,100,32,123,32,112,97,121,32,48]++rep [44,48] 32++[59,32,125])).2=(12,93):=by kernel_rfl
end Go.Proofs.YtmkdpmfhlfhjkaaGreatDoor
