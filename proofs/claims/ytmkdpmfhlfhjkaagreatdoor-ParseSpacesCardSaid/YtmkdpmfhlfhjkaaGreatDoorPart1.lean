/- Steps of the proof. -/
import Derived.Shelf.Strings.Builder1
import Derived.Shelf.Strings.Builder2
import Derived.Shelf.Strings.OnBuilder
import Derived.Shelf.Small.Strs
import Derived.Shelf.Strconv.Itoa0
import Derived.Shelf.Strconv.Itoa1
import Derived.Shelf.LaysM
import Derived.Shelf.Strconv.Itoa2
import Derived.Shelf.Strconv.Itoa3
import Derived.Shelf.Strings.Search1
import Derived.Shelf.Strings.Prefix
import Derived.Shelf.Slices.Equal
import Derived.Test.YtmkdpmfhlfhjkaaGreatDoorProg
import Derived.Test.YtmkdpmfhlfhjkaaGreatDoorIr07
import Derived.Test.YtmkdpmfhlfhjkaaGreatDoorCore4
import Derived.LaidEql
import Derived.Stop.Asserts
import Derived.RowKitTokens
set_option linter.all false
namespace Go.Proofs
open Go.Shelf Go.Ab
open Go.RowKit in
def Tryz.lays156_ren:Go.Shelf.Ren:=⟨λ|156=>135|165=>174|166=>175|169=>176|240=>198|241=>199|276=>213|277=>214|n=>n,λ|31=>105|9=>9|3=>3|4=>4|0=>0|20=>20|72=>213|76=>215|70=>211|37=>83|75=>113|127=>238|164=>196|5=>5|80=>72|n=>n,λ|n=>n⟩
theorem Tryz.lays156:Go.Proofs.Lays.n156 Tryz.prog Tryz.lays156_ren:={
 mixed:=by kernel_rfl
 f156:=Tryz.func135.trans (Zp some (by kernel_rfl))
 f165:=Tryz.func174.trans (Zp some (by kernel_rfl))
 f166:=Tryz.func175.trans (Zp some (by kernel_rfl))
 f169:=Tryz.func176.trans (Zp some (by kernel_rfl))
 f240:=Tryz.func198.trans (Zp some (by kernel_rfl))
 f241:=Tryz.func199.trans (Zp some (by kernel_rfl))
 f276:=Tryz.func213.trans (Zp some (by kernel_rfl))
 f277:=Tryz.func214.trans (Zp some (by kernel_rfl))
 t0:=Tryz.underlying0
 a0:=Tryz.isAgg0
 z0:=Tryz.sizeOf0
 v0:=Tryz.zeroValue0
 t3:=Tryz.underlying3
 a3:=Tryz.isAgg3
 z3:=Tryz.sizeOf3
 v3:=Tryz.zeroValue3
 t4:=Tryz.underlying4
 a4:=Tryz.isAgg4
 z4:=Tryz.sizeOf4
 v4:=Tryz.zeroValue4
 t9:=Tryz.underlying9
 a9:=Tryz.isAgg9
 z9:=Tryz.sizeOf9
 v9:=Tryz.zeroValue9
 t20:=Tryz.underlying20
 a20:=Tryz.isAgg20
 z20:=Tryz.sizeOf20
 v20:=Tryz.zeroValue20
 t31:=Tryz.underlying105
 a31:=Tryz.isAgg105
 z31:=Tryz.sizeOf105
 v31:=Tryz.zeroValue105
 t37:=Tryz.underlying83
 a37:=Tryz.isAgg83
 z37:=Tryz.sizeOf83
 v37:=Tryz.zeroValue83
 t70:=Tryz.underlying211
 a70:=Tryz.isAgg211
 z70:=Tryz.sizeOf211
 v70:=Tryz.zeroValue211
 t72:=Tryz.underlying213
 a72:=Tryz.isAgg213
 z72:=Tryz.sizeOf213
 v72:=Tryz.zeroValue213
 t75:=Tryz.underlying113
 a75:=Tryz.isAgg113
 z75:=Tryz.sizeOf113
 v75:=Tryz.zeroValue113
 t76:=Tryz.underlying215
 a76:=Tryz.isAgg215
 z76:=Tryz.sizeOf215
 v76:=Tryz.zeroValue215
 t127:=Tryz.underlying238
 a127:=Tryz.isAgg238
 z127:=Tryz.sizeOf238
 v127:=Tryz.zeroValue238
 t164:=Tryz.underlying196
 a164:=Tryz.isAgg196
 z164:=Tryz.sizeOf196
 v164:=Tryz.zeroValue196 }
theorem Tryz.Builder_Extra_156:Builder.Extra Tryz.prog Tryz.lays156_ren:={
 sizeBuilder:=by kernel_rfl
 liesBuilder:=by kernel_rfl
 t5:=Tryz.underlying5
 a5:=Tryz.isAgg5
 z5:=Tryz.sizeOf5
 v5:=Tryz.zeroValue5
 infoByte:=by kernel_rfl
 cellsByte:=by kernel_rfl
 sizeByte:=by kernel_rfl
 neB5:=by decide }
open Go.RowKit in
theorem Tryz.strings_Join_none (a:ZJ) (c:Nat) (sep:ByteArray) (w:ZM) :
 Calls Tryz.prog 135 #[.slice a 0 c,.string sep] w λe w'=>e=.returned (.string ⟨#[]⟩)/\w'=w:=Any.strings_Join_none Tryz.lays156 Tryz.Builder_Extra_156 a c sep w
open Go.RowKit in
theorem Tryz.strings_Join (bk o c:Nat) (xs:List ByteArray) (sep:ByteArray) (w:ZM) (hcells:∀ (j:Nat) x,xs[j]? = some x->w.cell? ⟨bk,o+j,none⟩=some (.string x)) (hbk:bk<w.heap.size) (hN:xs.length<=140737488355328) (hcap:xs.length<=c) (hlen:(Lib.join (xs.map (·.data.toList)) sep.data.toList).length<=140737488355328) :
 Calls Tryz.prog 135 #[.slice (some ⟨bk,o,none⟩) xs.length c,.string sep] w λe w'=>e=.returned (.string ⟨(Lib.join (xs.map (·.data.toList)) sep.data.toList).toArray⟩)/\Below w.heap.size w w':=Any.strings_Join Tryz.lays156 Tryz.Builder_Extra_156 bk o c xs sep w hcells hbk hN hcap hlen
def Tryz.lays137_ren:Go.Shelf.Ren:=⟨λ|137=>165|217=>194|266=>212|n=>n,λ|9=>9|5=>5|3=>3|n=>n,λ|n=>n⟩
theorem Tryz.lays137:Go.Proofs.Lays.n137 Tryz.prog Tryz.lays137_ren:={
 mixed:=by kernel_rfl
 f137:=Tryz.func165.trans (Zp some (by kernel_rfl))
 f217:=Tryz.func194.trans (Zp some (by kernel_rfl))
 f266:=Tryz.func212.trans (Zp some (by kernel_rfl))
 t3:=Tryz.underlying3
 a3:=Tryz.isAgg3
 z3:=Tryz.sizeOf3
 v3:=Tryz.zeroValue3
 t5:=Tryz.underlying5
 a5:=Tryz.isAgg5
 z5:=Tryz.sizeOf5
 v5:=Tryz.zeroValue5
 t9:=Tryz.underlying9
 a9:=Tryz.isAgg9
 z9:=Tryz.sizeOf9
 v9:=Tryz.zeroValue9 }
open Go.RowKit in
theorem Tryz.strings_IndexByte (s:ByteArray) (c:Int) (w:ZM) :
 Calls Tryz.prog 165 #[.string s,.int .u8 c] w λe w'=>e=.returned (.int .i64 (Lib.indexByte s.data.toList c.toNat.toUInt8))/\w'=w:=Any.strings_IndexByte Tryz.lays137 s c w
open Go.RowKit Go.Sort Go.Lib in
def Tryz.laysM246_ren:Go.Shelf.Ren:=⟨λ|246=>191|283=>208|284=>209|285=>210|286=>211|129=>219|317=>218|318=>220|319=>221|320=>222|337=>224|338=>225|n=>n,λ|2=>2|3=>3|9=>9|4=>4|171=>241|0=>0|53=>242|37=>83|5=>5|173=>245|212=>251|51=>252|20=>20|213=>253|46=>254|232=>257|233=>258|n=>n,λ|17=>3|18=>5|19=>6|n=>n⟩
open Go.RowKit Go.Sort Go.Lib in
def Tryz.laysM243_ren:Go.Shelf.Ren:=⟨λ|243=>158|246=>191|283=>208|284=>209|285=>210|286=>211|129=>219|317=>218|318=>220|319=>221|320=>222|337=>224|338=>225|n=>n,λ|3=>3|9=>9|2=>2|4=>4|171=>241|0=>0|53=>242|37=>83|5=>5|173=>245|212=>251|51=>252|20=>20|213=>253|46=>254|232=>257|233=>258|n=>n,λ|17=>3|18=>5|19=>6|n=>n⟩
open Go.RowKit Go.Sort Go.Lib in
def Tryz.laysM171_ren:Go.Shelf.Ren:=⟨λ|171=>106|243=>158|246=>191|283=>208|284=>209|285=>210|286=>211|129=>219|317=>218|318=>220|319=>221|320=>222|337=>224|338=>225|n=>n,λ|3=>3|9=>9|2=>2|4=>4|171=>241|0=>0|53=>242|37=>83|5=>5|173=>245|212=>251|51=>252|20=>20|213=>253|46=>254|232=>257|233=>258|n=>n,λ|17=>3|18=>5|19=>6|n=>n⟩
theorem Tryz.laysM171:Go.Proofs.LaysM.n171 Tryz.prog Tryz.laysM171_ren:={
 mixed:=by kernel_rfl
 f129:=Tryz.func219.trans (Zp some (by kernel_rfl))
 f171:=Tryz.func106.trans (Zp some (by kernel_rfl))
 f243:=Tryz.func158.trans (Zp some (by kernel_rfl))
 f246:=Tryz.func191.trans (Zp some (by kernel_rfl))
 f283:=Tryz.func208.trans (Zp some (by kernel_rfl))
 f284:=Tryz.func209.trans (Zp some (by kernel_rfl))
 f285:=Tryz.func210.trans (Zp some (by kernel_rfl))
 f286:=Tryz.func211.trans (Zp some (by kernel_rfl))
 f317:=Tryz.func218.trans (Zp some (by kernel_rfl))
 f318:=Tryz.func220.trans (Zp some (by kernel_rfl))
 f319:=Tryz.func221.trans (Zp some (by kernel_rfl))
 f320:=Tryz.func222.trans (Zp some (by kernel_rfl))
 f337:=Tryz.func224.trans (Zp some (by kernel_rfl))
 f338:=Tryz.func225.trans (Zp some (by kernel_rfl))
 t0:=Tryz.underlying0
 a0:=Tryz.isAgg0
 z0:=Tryz.sizeOf0
 v0:=Tryz.zeroValue0
 t2:=Tryz.underlying2
 a2:=Tryz.isAgg2
 z2:=Tryz.sizeOf2
 v2:=Tryz.zeroValue2
 t3:=Tryz.underlying3
 a3:=Tryz.isAgg3
 z3:=Tryz.sizeOf3
 v3:=Tryz.zeroValue3
 t4:=Tryz.underlying4
 a4:=Tryz.isAgg4
 z4:=Tryz.sizeOf4
 v4:=Tryz.zeroValue4
 t5:=Tryz.underlying5
 a5:=Tryz.isAgg5
 z5:=Tryz.sizeOf5
 v5:=Tryz.zeroValue5
 t9:=Tryz.underlying9
 a9:=Tryz.isAgg9
 z9:=Tryz.sizeOf9
 v9:=Tryz.zeroValue9
 t20:=Tryz.underlying20
 a20:=Tryz.isAgg20
 z20:=Tryz.sizeOf20
 v20:=Tryz.zeroValue20
 t37:=Tryz.underlying83
 a37:=Tryz.isAgg83
 z37:=Tryz.sizeOf83
 v37:=Tryz.zeroValue83
 t46:=Tryz.underlying254
 a46:=Tryz.isAgg254
 z46:=Tryz.sizeOf254
 v46:=Tryz.zeroValue254
 t51:=Tryz.underlying252
 a51:=Tryz.isAgg252
 z51:=Tryz.sizeOf252
 v51:=Tryz.zeroValue252
 t53:=Tryz.underlying242
 a53:=Tryz.isAgg242
 z53:=Tryz.sizeOf242
 v53:=Tryz.zeroValue242
 t171:=Tryz.underlying241
 a171:=Tryz.isAgg241
 z171:=Tryz.sizeOf241
 v171:=Tryz.zeroValue241
 t173:=Tryz.underlying245
 a173:=Tryz.isAgg245
 z173:=Tryz.sizeOf245
 v173:=Tryz.zeroValue245
 t212:=Tryz.underlying251
 a212:=Tryz.isAgg251
 z212:=Tryz.sizeOf251
 v212:=Tryz.zeroValue251
 t213:=Tryz.underlying253
 a213:=Tryz.isAgg253
 z213:=Tryz.sizeOf253
 t232:=Tryz.underlying257
 a232:=Tryz.isAgg257
 z232:=Tryz.sizeOf257
 v232:=Tryz.zeroValue257
 t233:=Tryz.underlying258
 a233:=Tryz.isAgg258
 z233:=Tryz.sizeOf258
 v233:=Tryz.zeroValue258
 g17:=by kernel_rfl
 g18:=by kernel_rfl
 g19:=by kernel_rfl
 i0:=by kernel_rfl
 i2:=by kernel_rfl
 i3:=by kernel_rfl
 i4:=by kernel_rfl
 i5:=by kernel_rfl
 i9:=by kernel_rfl
 i20:=by kernel_rfl
 i37:=by kernel_rfl
 i46:=by kernel_rfl
 i51:=by kernel_rfl
 i53:=by kernel_rfl
 i171:=by kernel_rfl
 i173:=by kernel_rfl
 i212:=by kernel_rfl
 i232:=by kernel_rfl
 i233:=by kernel_rfl
 m17:=by kernel_rfl
 m18:=by kernel_rfl
 m19:=by kernel_rfl }
open Go.RowKit Go.Sort Go.Lib in
theorem Tryz.strconv_Itoa (n : Int) (h0 : -9223372036854775808 <= n) (h1 : n <= 9223372036854775807) (w : ZM) (htab : Lib.TabIs Tryz.prog w "internal/strconv.uint64pow10" .u64 Lib.pow10Tab) :
 Calls Tryz.prog 106 #[.int .i64 n] w λe w'=>e=.returned (.string ⟨(Lib.itoa n).toArray⟩)/\∃ k os,w'=grow (w.drewN k) os:=Any.strconv_Itoa Tryz.laysM171 n h0 h1 w htab
open Go.RowKit Go.Lib in
def Tryz.lays206_ren:Go.Shelf.Ren:=⟨λ|206=>193|n=>n,λ|9=>9|4=>4|3=>3|n=>n,λ|n=>n⟩
open Go.RowKit Go.Lib in
def Tryz.lays99_ren:Go.Shelf.Ren:=⟨λ|99=>164|206=>193|n=>n,λ|9=>9|4=>4|3=>3|n=>n,λ|n=>n⟩
theorem Tryz.lays99:Go.Proofs.Lays.n99 Tryz.prog Tryz.lays99_ren:={
 mixed:=by kernel_rfl
 f99:=Tryz.func164.trans (Zp some (by kernel_rfl))
 f206:=Tryz.func193.trans (Zp some (by kernel_rfl))
 t3:=Tryz.underlying3
 a3:=Tryz.isAgg3
 z3:=Tryz.sizeOf3
 v3:=Tryz.zeroValue3
 t4:=Tryz.underlying4
 a4:=Tryz.isAgg4
 z4:=Tryz.sizeOf4
 v4:=Tryz.zeroValue4
 t9:=Tryz.underlying9
 a9:=Tryz.isAgg9
 z9:=Tryz.sizeOf9
 v9:=Tryz.zeroValue9 }
open Go.RowKit Go.Lib in
theorem Tryz.strings_HasPrefix (s p:ByteArray) (w:ZM) :
 Calls Tryz.prog 164 #[.string s,.string p] w λe w'=>e=.returned (.bool (Lib.hasPrefix s.data.toList p.data.toList))/\w'=w:=Any.strings_HasPrefix Tryz.lays99 s p w
end Go.Proofs
namespace Go.Ab
open Go.RowKit
section
variable [QR]
variable {P:ZL}
theorem QtA {S:St} {w':ZM} (h:Below S.w.heap.size S.w w'):Ext S.H.length S ⟨S.ρ,S.H,w'⟩ where
 obj:=λi p _ h=>⟨p,h,Vb _,λ_=>rfl⟩
 imm:=λk hk hn=>⟨h.block k hk,hn⟩
 size:=h.size
 shape:=λk T m hs=>by
  have hk:k<S.w.heap.size:=by
   rcases Vs k S.w.heap.size with h1|h1
   . exact h1
   . unfold World.shape? at hs; rw[V1 h1]at hs; cases hs
  unfold World.shape? at *;rw[show(⟨S.ρ,S.H,w'⟩:St).w=w' from rfl,h.block k hk]; exact hs
 loops:=λk r hk=>⟨r,by
  have hlt:k<S.w.heap.size:=QcU hk;exact(h.block k hlt).trans hk⟩
 os:=h.os
 tape:=h.tape
 output:=h.output
theorem Qt7 {S:St} (hS:Sim S) {w':ZM} (h:Below S.w.heap.size S.w w'):Sim ⟨S.ρ,S.H,w'⟩ :=
 hS.step (QtA h) (Vb _) (λi p hp=>.inl ⟨hp,rfl,λb hb hl=>h.block b (hS.lt ⟨i,p,hp,hl,hb⟩)⟩) λi j o o' b hi hj hl hl' h1 h2=>hS.inj i j o o' b hi hj hl hl' h1 h2
theorem Ok.lib {f:ZN} {args:ZH} {H:ZG} {r:Value} (he:∀ (vs:Array Value) (w:ZM),(callFunc f vs).run P w=.ok (.enter f vs) w)
 (h:∀ (S:St) (vs:ZI),Sim S->VRs S args vs->Calls P f vs.toArray S.w λe w'=>e=.returned r/\Below S.w.heap.size S.w w'):Ok P f args H (.ret (.val r)) H:=by
 refine⟨he,λS vs hH hS hv=>(h S vs hS hv).mono ?_⟩;rintro e w' ⟨h1,h2⟩;subst hH;exact⟨r,S.ρ,QtA h2,Qt7 hS h2,h1,.val r⟩
theorem VRs.two {S:St} {a b:Value} {vs:ZI} (h:VRs S [.val a,.val b] vs):vs=[a,b]:=by
 obtain⟨h1,h2⟩:=h
 match vs,h1 with
 |[x,y],_ =>
  have hx:=h2 0 _ x rfl rfl;have hy:=h2 1 _ y rfl rfl
  cases hx; cases hy; rfl
end
end Go.Ab
namespace Go.Proofs.YtmkdpmfhlfhjkaaGreatDoor
open Go.Ab Go.RowKit
theorem hm:Tryz.prog.follows .mixedOrders=true:=Tryz.checked.mixed
abbrev B (l:ZE):ByteArray:=⟨l.toArray⟩
@[simp] theorem QX (l:ZE):(B l).size=l.length:=by simp[ByteArray.size]
theorem QlV (s:ByteArray):s=B s.data.toList:=by obtain⟨⟨l⟩⟩:=s; rfl
@[simp] theorem B_ext (l:ZE) (a b:Nat):(B l).extract a b=B ((l.drop a).take (b-a)):=by
 have h:((B l).extract a b).data.toList=(l.drop a).take (b-a):=by
  simp[B,ByteArray.extract,ByteArray.copySlice,List.extract_eq_take_drop]
 rw[QlV ((B l).extract a b),h]
@[simp] theorem B_app (a b:ZE):B a++B b=B (a++b):=by
 rw[QlV (B a++B b)];simp[B]
theorem QrN {a b:ZE}:B a=B b↔a=b:=⟨λh=>by have:=Zp (λs=>s.data.toList) h; simpa using this,λh=>by rw[h]⟩
section
variable {H:ZG}
theorem QAn (s p:ZE):Ok Tryz.prog 164 [st (B s),st (B p)] H (.ret (bl (p.isPrefixOf s))) H :=
 Ok.lib (enters_of Tryz.func164 (by kernel_rfl) rfl) λS vs _ hv=>by
  rw[VRs.two hv];refine(Tryz.strings_HasPrefix (B s) (B p) S.w).mono ?_;rintro e w' ⟨rfl,rfl⟩;exact⟨by simp[Lib.hasPrefix],Below.refl _ _⟩
theorem QzS (s:ZE) (c:UInt8):Ok Tryz.prog 165 [st (B s),.val (.int .u8 c.toNat)] H (.ret (i64 (Lib.indexByte s c))) H :=
 Ok.lib (enters_of Tryz.func165 (by kernel_rfl) rfl) λS vs _ hv=>by
  rw[VRs.two hv];refine(Tryz.strings_IndexByte (B s) c.toNat S.w).mono ?_;rintro e w' ⟨rfl,rfl⟩;exact⟨by simp,Below.refl _ _⟩
theorem QwQ (xs:ZD) (sep:ZE) (hn:xs.length<=140737488355328) (hj:(Lib.join xs sep).length<=140737488355328) :
   Ok Tryz.prog 135 [.slc (xs.map λs=>st (B s)) xs.length,st (B sep)] H (.ret (st (B (Lib.join xs sep)))) H :=
 Ok.lib (enters_of Tryz.func135 (by kernel_rfl) rfl) λS vs hS hv=>by
   obtain⟨h1,h2⟩:=hv
   match vs,h1 with
   |[x,y],_ =>
     have hx:=h2 0 _ x rfl rfl;have hy:=h2 1 _ y rfl rfl
     cases hy
     have nope:∀ (a:ZJ) (cap:Nat),xs=[]->Calls Tryz.prog 135 #[.slice a 0 cap,.string (B sep)] S.w λe w'=>e=.returned (.string (B (Lib.join xs sep)))/\Below S.w.heap.size S.w w':=by
       rintro a cap rfl;refine(Tryz.strings_Join_none a cap (B sep) S.w).mono ?_;rintro e w' ⟨rfl,rfl⟩;exact⟨by simp[Lib.join,B],Below.refl _ _⟩
     generalize hcs:(xs.map λs=>st (B s))=cs at hx;generalize hlen:xs.length=n at hx
     cases hx with
     |nilslc =>
       have:xs=[]:=VJ hlen;exact nope none 0 this
     |slc _ _ a cap us hc hl hi h =>
       subst hcs hlen;by_cases hne:xs=[]
       . subst hne; exact nope _ _ rfl
       . obtain⟨hi1,hi2⟩:=hi;have hcells:∀ (j:Nat) (x:ByteArray),(xs.map B)[j]? = some x->S.w.cell? (a.add j)=some (.string x):=by
           intro j x hj;rw[Vp,VY]at hj;obtain⟨s,hs,rfl⟩:=hj;have h3:(xs.map λs=>st (B s))[j]? = some (st (B s)):=by rw[Vp,hs]; rfl
           have hlt:j<us.length:=by rw[hl]; exact Ql h3
           have h4:=h j _ us[j] h3 (Ve hlt);have h5:us[j]=.string (B s):=h4.isS rfl;have:=hi1 j us[j] (Ve hlt);rw[h5]at this; exact this
         have hsp:a.spot=none:=by
           obtain⟨s0,r0,rfl⟩:=List.exists_cons_of_ne_nil hne;have:=hcells 0 (B s0) rfl;simp only[Addr.add,Zs]at this;unfold World.cell? at this;split at this
           . by_cases h:a.spot.isSome=true
             . rw[Zo h]at this; cases this
             . simpa using h
           . cases this
         obtain⟨bk,o,sp⟩:=a;simp only at hsp;subst hsp;have hcells':∀ (j:Nat) (x:ByteArray),(xs.map B)[j]? = some x->S.w.cell? ⟨bk,o+j,none⟩=some (.string x):=by
           intro j x hj;have:=hcells j x hj;have e:((⟨bk,o,none⟩:Addr).add j)=⟨bk,o+j,none⟩:=by unfold Addr.add; split<;>simp_all
           rw[e]at this; exact this
         have hbk:bk<S.w.heap.size:=by
           obtain⟨s0,r0,rfl⟩:=List.exists_cons_of_ne_nil hne;have:=hcells' 0 (B s0) rfl;unfold World.cell? at this;split at this
           . exact QcU (by assumption)
           . cases this
         have ej : ((xs.map B).map (·.data.toList)) = xs := by rw [Yk]; conv => rhs; rw [<- List.map_id xs]
                                                               apply V8; intro l _; simp
         have hcon:=Tryz.strings_Join bk o cap (xs.map B) (B sep) S.w hcells' hbk (by simpa using hn) (by simpa using hc) (by rw[ej]; simpa using hj);rw[ej]at hcon;simpa[B]using hcon
end
end Go.Proofs.YtmkdpmfhlfhjkaaGreatDoor
namespace Go.Proofs.YtmkdpmfhlfhjkaaGreatDoor
open Go.RowKit Go.Extern.Stop Go.Stop Go.Extern Go.Ab
abbrev tH (t:Nat):Value:=.pointer (some ⟨7,t,none⟩)
theorem QzQ (t:Addr) (w:ZM):(ReflectliteValue.unpack (.iface 161 (.pointer (some t)))).run Tryz.prog w
 = .ok (.agg #[tH 161,.pointer (some ⟨w.heap.size,0,none⟩),.int .u64 150]) (w.alloc (.cells #[.pointer (some t)] 161)):=by kernel_rfl
theorem QAK (a : Addr) (w : ZM) : (ReflectliteValue.methodAny (ReflectliteValue.valueError "reflectlite.Value.Type" 0) (λt _ _ _ => ReflectliteType.toType t) #[.agg #[tH 161, .pointer (some a), .int .u64 150]]).run Tryz.prog w
 = .ok (.iface 225 (.agg #[tH 161])) w:=by kernel_rfl
theorem QA2 (h : Value) (w : ZM) : (Go.method 385 225 (.agg #[h]) "Kind").run Tryz.prog w = .ok (240, h) w := by kernel_rfl
theorem QCk (w:ZM):((ReflectliteType.abiMethod λt=>(λa:Nat=>Value.int IntKind.u8 (a:Int)) <$> Rtype.kind t) #[tH 161]).run Tryz.prog w=.ok (.int .u8 22) w:=by kernel_rfl
theorem Qw1 (w:ZM):((ReflectliteType.abiMethod λt=>(λa:Nat=>Value.int IntKind.u8 (a:Int)) <$> Rtype.kind t) #[tH 115]).run Tryz.prog w=.ok (.int .u8 25) w:=by kernel_rfl
theorem rlm (z:Sem Value) (f:ZK->Addr->Nat->Nat->Sem Value) (v:Value) :
 ReflectliteValue.method z f #[v]=(do match <- ReflectliteValue.parts v with|none=>z|some (t,a,fl)=>f t a fl (fl % 32)):=rfl
theorem QsT (a:Addr) (w:ZM):(ReflectliteValue.parts (.agg #[tH 161,.pointer (some a),.int .u64 150])).run Tryz.prog w=.ok (some (161,a,150)) w:=by kernel_rfl
theorem Qzm (a p:Addr) (W:ZM) (ha:W.cell? a=some (.pointer (some p))) :
 (ReflectliteValue.method (ReflectliteValue.valueError "reflectlite.Value.IsNil" 0) ReflectliteValue.isNil #[.agg #[tH 161, .pointer (some a), .int .u64 150]]).run Tryz.prog W = .ok (.bool false) W := by
 rw[rlm];simp only[Sem.run_bind,QsT,Result.andThen];simp[ReflectliteValue.isNil,loadVar,isAgg,underlying,Tryz.underlying161,ha,Result.andThen]
theorem Qzz (h : Value) (w : ZM) : (Go.method 385 225 (.agg #[h]) "Elem").run Tryz.prog w = .ok (252, .agg #[h]) w := by kernel_rfl
theorem QyJ (h : Value) (w : ZM) : (Go.method 385 225 (.agg #[h]) "Implements").run Tryz.prog w = .ok (253, .agg #[h]) w := by kernel_rfl
theorem QCm (h : Value) (w : ZM) : (Go.method 385 225 (.agg #[h]) "AssignableTo").run Tryz.prog w = .ok (250, .agg #[h]) w := by kernel_rfl
theorem QuV (w:ZM):(ReflectliteType.method ReflectliteType.elem #[.agg #[tH 161]]).run Tryz.prog w=.ok (.iface 225 (.agg #[tH 115])) w:=by kernel_rfl
theorem QCy (w : ZM) : (ReflectliteType.relation "Implements" ReflectliteType.implements_ #[.agg #[tH 115], .iface 225 (.agg #[tH 113])]).run Tryz.prog w = .ok (.bool true) w := by kernel_rfl
theorem QxW (v:Value) (w:ZM):(ReflectliteType.typeOf #[.iface 115 v]).run Tryz.prog w=.ok (.iface 225 (.agg #[tH 115])) w:=by kernel_rfl
theorem QyM (w : ZM) : (ReflectliteType.relation "AssignableTo" ReflectliteType.assignableTo #[.agg #[tH 115], .iface 225 (.agg #[tH 115])]).run Tryz.prog w = .ok (.bool true) w := by kernel_rfl
theorem Qzi (x y:Value) (w:ZM):(ReflectliteValue.unpack (.iface 115 (.agg #[x,y]))).run Tryz.prog w
 = .ok (.agg #[tH 115,.pointer (some ⟨w.heap.size,0,none⟩),.int .u64 153]) (w.alloc (.cells #[x,y] 115)):=by kernel_rfl
theorem Quu (w:ZM):(Rtype.elem? 161).run Tryz.prog w=.ok (some 115) w:=by kernel_rfl
theorem mk62 (p:Addr) (w:ZM):(ReflectliteValue.mk 115 p ReflectliteValue.flagAddr).run Tryz.prog w=.ok (.agg #[tH 115,.pointer (some p),.int .u64 409]) w:=by kernel_rfl
theorem Qu5 (a p:Addr) (W:ZM) (ha:W.cell? a=some (.pointer (some p))) :
 (ReflectliteValue.method (ReflectliteValue.valueError "reflectlite.Value.Elem" 0) ReflectliteValue.elem #[.agg #[tH 161, .pointer (some a), .int .u64 150]]).run Tryz.prog W
  = .ok (.agg #[tH 115,.pointer (some p),.int .u64 409]) W:=by
 rw[rlm];simp only[Sem.run_bind,QsT,Result.andThen];simp[ReflectliteValue.elem,loadVar,isAgg,underlying,Tryz.underlying161,ha,Result.andThen,Quu,mk62]
theorem rls (v x:Value):ReflectliteValue.set #[v,x]=(do
 let (some (dst,a,fl),some (src,b,_)):=(<- ReflectliteValue.parts v,<- ReflectliteValue.parts x)
  | unsupported (.noEntry "extern/(internal/reflectlite.Value).Set.zeroValue")
 if fl / ReflectliteValue.flagAddr % 2 == 0 then unsupported (.noEntry "extern/(internal/reflectlite.Value).Set.unaddressable")
 let val <- loadVar src b
 if <- Rtype.directlyAssignable dst src then storeVar dst a val
 else if <- Rtype.implements dst src then
  if(<- Rtype.kind src)==20 then
   match val with
   | .nilIface => unsupported (.noEntry "extern/reflectlite: a nil value of one interface type handed on as a value of another")
   |_=>storeVar dst a val
  else storeVar dst a (.iface src val)
 else panicString ("reflectlite.Set: value of type " ++ (<- Rtype.spelt src) ++ " is not assignable to type " ++ (<- Rtype.spelt dst))
 pure (.tuple #[])):=rfl
theorem Qye (a:Addr) (w:ZM):(ReflectliteValue.parts (.agg #[tH 115,.pointer (some a),.int .u64 409])).run Tryz.prog w=.ok (some (115,a,409)) w:=by kernel_rfl
theorem QAU (a:Addr) (w:ZM):(ReflectliteValue.parts (.agg #[tH 115,.pointer (some a),.int .u64 153])).run Tryz.prog w=.ok (some (115,a,153)) w:=by kernel_rfl
theorem Qxh (w:ZM):(Rtype.directlyAssignable 115 115).run Tryz.prog w=.ok true w:=by kernel_rfl
theorem QyS (bt:Nat) (b:Nat) (x y:Value) (W:ZM) (c:Array Value) (hb0:W.cell? ⟨b,0,none⟩=some x) (hb1:W.cell? ⟨b,1,none⟩=some y)
 (ht:W.heap[bt]? = some (.cells c 115 (0,0))) (hc:2<=c.size) (hx:x.oneCell'=true) (hy:y.oneCell'=true) :
 (ReflectliteValue.set #[.agg #[tH 115,.pointer (some ⟨bt,0,none⟩),.int .u64 409],.agg #[tH 115,.pointer (some ⟨b,0,none⟩),.int .u64 153]]).run Tryz.prog W
  = .ok (.tuple #[]) { W with heap:=W.heap.setIfInBounds bt (.cells ([x,y]++c.toList.drop 2).toArray 115 (0,0)) }:=by
 have hl:=run_loadCells_list (P:=Tryz.prog) W ⟨b,0,none⟩ [x,y] (by
  intro j v hj
  match j with
  |0=>simp at hj; subst hj; simpa[Addr.add]using hb0
  |1=>simp at hj; subst hj; simpa[Addr.add]using hb1
  |j+2=>simp at hj)
 have hs:=run_storeCells_at Tryz.prog bt 0 115 [x,y] 0 c W ht (by simpa using hc) (by
  intro v hv;simp at hv;rcases hv with rfl|rfl
  . exact hx
  . exact hy)
 rw[QkR W bt _ _ 115 (0,0) ht]at hs;rw[rls];simp only[Sem.run_bind,Qye,QAU,Result.andThen];have hag:(isAgg 115).run Tryz.prog W=.ok true W:=by simp[isAgg,underlying,Tryz.underlying115]
 have hsz:(sizeOf 115).run Tryz.prog W=.ok 2 W:=Tryz.sizeOf115 W;simp only[Vh,VH]at hl;simp[ReflectliteValue.flagAddr,loadVar,hag,hsz,hl,Result.andThen,Qxh,storeVar,Value.cells,hs]
def asW (w:ZM) (t:Addr) (x y:Value):ZM :=
 (((w.alloc (.cells #[.pointer (some t)] 161)).alloc (.cells #[tH 161,.pointer (some ⟨w.heap.size,0,none⟩),.int .u64 150] 199)).alloc (.cells #[tH 161,.pointer (some ⟨w.heap.size,0,none⟩),.int .u64 150] 199)).alloc (.cells #[x,y] 115)
set_option maxHeartbeats 4000000 in
theorem Qvn (bt:Nat) (x y:Value) (c:Array Value) (w:ZM) (hg:w.cell? ⟨2,0,none⟩=some (.iface 225 (.agg #[tH 113]))) (ht:w.heap[bt]? = some (.cells c 115 (0,0))) (hc:2<=c.size)
 (hx:x.oneCell'=true) (hy:y.oneCell'=true) :
 Calls Tryz.prog 129 #[.iface 115 (.agg #[x,y]),.iface 161 (.pointer (some ⟨bt,0,none⟩))] w λev w'=>ev=.returned (.bool true) /\
  w'={ asW w ⟨bt,0,none⟩ x y with heap:=(asW w ⟨bt,0,none⟩ x y).heap.setIfInBounds bt (.cells ([x,y]++c.toList.drop 2).toArray 115 (0,0)) }:=by
 have h6 := @run_callFunc_extern Tryz.prog 166 _ (λargs=>ReflectliteValue.unpack (args.getD 0 (.tuple #[]))) Tryz.func166 (by kernel_rfl) (by kernel_rfl) (by kernel_rfl) (by kernel_rfl)
 have h7 := @run_callFunc_extern Tryz.prog 167 _ (ReflectliteValue.methodAny (ReflectliteValue.valueError "reflectlite.Value.Type" 0) (λt _ _ _ => ReflectliteType.toType t)) Tryz.func167 (by kernel_rfl) (by kernel_rfl) (by kernel_rfl) (by kernel_rfl)
 have h8 := @run_callFunc_extern Tryz.prog 168 _ (ReflectliteValue.method (ReflectliteValue.valueError "reflectlite.Value.IsNil" 0) ReflectliteValue.isNil) Tryz.func168 (by kernel_rfl) (by kernel_rfl) (by kernel_rfl) (by kernel_rfl)
 have h27 := @run_callFunc_extern Tryz.prog 240 _ (ReflectliteType.abiMethod λt=>do pure (.int .u8 (<- Rtype.kind t))) Tryz.func240 (by kernel_rfl) (by kernel_rfl) (by kernel_rfl) (by kernel_rfl);have h37 := @run_callFunc_extern Tryz.prog 252 _ (ReflectliteType.method ReflectliteType.elem) Tryz.func252 (by kernel_rfl) (by kernel_rfl) (by kernel_rfl) (by kernel_rfl)
 have h38 := @run_callFunc_extern Tryz.prog 253 _ (ReflectliteType.relation "Implements" ReflectliteType.implements_) Tryz.func253 (by kernel_rfl) (by kernel_rfl) (by kernel_rfl) (by kernel_rfl)
 have h10 := @run_callFunc_extern Tryz.prog 195 _ ReflectliteType.typeOf Tryz.func195 (by kernel_rfl) (by kernel_rfl) (by kernel_rfl) (by kernel_rfl)
 have h35 := @run_callFunc_extern Tryz.prog 250 _ (ReflectliteType.relation "AssignableTo" ReflectliteType.assignableTo) Tryz.func250 (by kernel_rfl) (by kernel_rfl) (by kernel_rfl) (by kernel_rfl)
 have h11 := @run_callFunc_extern Tryz.prog 196 _ (ReflectliteValue.method (ReflectliteValue.valueError "reflectlite.Value.Elem" 0) ReflectliteValue.elem) Tryz.func196 (by kernel_rfl) (by kernel_rfl) (by kernel_rfl) (by kernel_rfl)
 have h12 := @run_callFunc_extern Tryz.prog 197 _ ReflectliteValue.set Tryz.func197 (by kernel_rfl) (by kernel_rfl) (by kernel_rfl) (by kernel_rfl);have tO:=QxW;have mA:=QCm;have a25:=QyM;have v25:=Qzi;have f6:=QzQ;have f7:=QAK;have mK:=QA2;have mE:=Qzz;have mI:=QyJ;have k27:=QCk;have k25:=Qw1;have e27:=QuV;have i25:=QCy;have hbt:bt<w.heap.size:=QcU ht;have n8:=Qzm ⟨w.heap.size,0,none⟩ ⟨bt,0,none⟩ ((w.alloc (.cells #[.pointer (some ⟨bt,0,none⟩)] 161)).alloc (.cells #[tH 161,.pointer (some ⟨w.heap.size,0,none⟩),.int .u64 150] 199)) (by simp);have hlt:2<w.heap.size:=by
  rcases Vs 2 w.heap.size with h|h
  . exact h
  . simp[World.cell?,V1 h]at hg
 have hg2:((w.alloc (.cells #[.pointer (some ⟨bt,0,none⟩)] 161)).alloc (.cells #[tH 161,.pointer (some ⟨w.heap.size,0,none⟩),.int .u64 150] 199)).cell? ⟨2,0,none⟩=some (.iface 225 (.agg #[tH 113])):=by
  rw[World.cell?_alloc_lt _ _ ⟨2,0,none⟩ (by simp; omega),World.cell?_alloc_lt _ _ ⟨2,0,none⟩ hlt]; exact hg
 have el:=Qu5 ⟨w.heap.size,0,none⟩ ⟨bt,0,none⟩ (((w.alloc (.cells #[.pointer (some ⟨bt,0,none⟩)] 161)).alloc (.cells #[tH 161,.pointer (some ⟨w.heap.size,0,none⟩),.int .u64 150] 199)).alloc (.cells #[tH 161,.pointer (some ⟨w.heap.size,0,none⟩),.int .u64 150] 199)) (by rw[World.cell?_alloc_lt _ _ ⟨w.heap.size,0,none⟩ (by simp; omega)]; simp);have hold:∀ (o1 o2 o3 o4:Obj),((((w.alloc o1).alloc o2).alloc o3).alloc o4).heap[bt]? = some (.cells c 115 (0,0)):=by
  intro o1 o2 o3 o4;rw[Qbt _ _ (by simp; omega),Qbt _ _ (by simp; omega),Qbt _ _ (by simp; omega),Qbt _ _ hbt]; exact ht
 have st:=QyS bt (w.heap.size+1+1+1) x y (asW w ⟨bt,0,none⟩ x y) c
  (by unfold asW; rw[World.cell?_alloc_at _ _ _ _ (by simp)]; rfl) (by unfold asW; rw[World.cell?_alloc_at _ _ _ _ (by simp)]; rfl) (hold _ _ _ _) hc hx hy
 unfold asW at st ⊢
 go_enter Tryz.func129,Tryz.ntmps129
 go_wp2
 refine wp_loop_rounds 1 ?_;rw[rounds_succ]
 go_wp2
 go_ret
 exact⟨rfl,rfl⟩
end Go.Proofs.YtmkdpmfhlfhjkaaGreatDoor
namespace Go.Proofs.YtmkdpmfhlfhjkaaGreatDoor
open Go.RowKit Go.Ab
theorem Qnl {S:St} {w:ZM} {o:Obj} (h:Ext S.H.length S ⟨S.ρ,S.H,w⟩):Ext S.H.length S ⟨S.ρ,S.H,w.alloc o⟩:=h.trans (Qi0 (S:=⟨S.ρ,S.H,w⟩) o)
section
variable {H:ZG}
theorem Qxg {j:Nat} {a b:SV} (ho:H[j]? = some ⟨[a,b],115,0,true⟩) (e p:Int) :
 Ok Tryz.prog 129 [.ifc 115 (.agg [i64 e,i64 p]),.ifc 161 (.ptr (.own j 0 0 0 0) 0)] H (.ret (bl true)) (H.set j ⟨[i64 e,i64 p],115,0,true⟩):=by
 refine⟨enters_of Tryz.func129 (by kernel_rfl) rfl,λS vs hH hS hv => ?_⟩;subst hH;obtain⟨h1,h2⟩:=hv
 match vs,h1 with
 |[x,y],_ =>
  have hx:=h2 0 _ x rfl rfl;have hy:=h2 1 _ y rfl rfl
  cases hx with
  |ifc _ _ v hv =>
  cases hy with
  |ifc _ _ u hu =>
  obtain⟨us,rfl,hus⟩:=hv.agg_inv
  cases hu with
  |ptrO _ _ _ _ _ _ ad o ho' hvl hat =>
  rw[ho]at ho'; cases ho'
  obtain⟨bt,hb,had⟩:=hat rfl;obtain⟨h3,h4⟩:=hus
  match us,h3 with
  |[x,y],_ =>
   have hx:=h4 0 _ x rfl rfl;have hy:=h4 1 _ y rfl rfl
   cases hx; cases hy
   have hlv:=hS.live j _ ho rfl;rw[hb]at hlv;obtain⟨us0,rest,hh,hvr⟩:=hlv;have hl2:us0.length=2:=hvr.1;have hg:S.w.cell? ⟨2,0,none⟩=some (.iface 225 (.agg #[tH 113])):=by
    have:=(hS.gl 2 _ rfl).1.1 0 _ rfl;simpa[Addr.add]using this
   subst had;refine(Qvn bt (.int .i64 e) (.int .i64 p) _ S.w hg hh (by simp; omega) rfl rfl).mono ?_;rintro ev w' ⟨rfl,rfl⟩;have s1:=Qiy (Qiy (Qiy (Qiy hS (.cells #[.pointer (some ⟨bt,0,none⟩)] 161)) (.cells #[tH 161,.pointer (some ⟨S.w.heap.size,0,none⟩),.int .u64 150] 199)) (.cells #[tH 161,.pointer (some ⟨S.w.heap.size,0,none⟩),.int .u64 150] 199)) (.cells #[.int .i64 e,.int .i64 p] 115);have e1:Ext S.H.length S ⟨S.ρ,S.H,asW S.w ⟨bt,0,none⟩ (.int .i64 e) (.int .i64 p)⟩:=Qnl (Qnl (Qnl (Qi0 _)));have hbt:bt<S.w.heap.size:=QcU hh;have hold:(asW S.w ⟨bt,0,none⟩ (.int .i64 e) (.int .i64 p)).heap[bt]? = some (.cells (us0++rest).toArray 115 (0,0)):=by
    unfold asW;rw[Qbt _ _ (by simp; omega),Qbt _ _ (by simp; omega),Qbt _ _ (by simp; omega),Qbt _ _ hbt]; exact hh
   have hd:(us0++rest).toArray.toList.drop 2=rest:=by simp[<-hl2]
   obtain⟨s2,e2⟩:=Qhx (S:=⟨S.ρ,S.H,asW S.w ⟨bt,0,none⟩ (.int .i64 e) (.int .i64 p)⟩) s1 (i:=j) (o:=⟨[a,b],115,0,true⟩) (b:=bt) ho rfl hb (cells:=[i64 e,i64 p]) (ver:=0) (Vb _)
    (us:=[.int .i64 e,.int .i64 p]) (rest:=rest) hold (by simp; omega) (VRs.cons (.val _) (VRs.cons (.val _) (VRs.nil _))) (by
     intro s hs;simp at hs;rcases hs with rfl|rfl<;>exact⟨rfl,rfl⟩) (w':=_) rfl
   exact⟨.bool true,S.ρ,e1.trans (by simpa[hd]using e2),by simpa[hd]using s2,rfl,.val _⟩
end
end Go.Proofs.YtmkdpmfhlfhjkaaGreatDoor
namespace Go.Proofs.YtmkdpmfhlfhjkaaGreatDoor
open Go.Ab
section
def QE (e p:Int):SV:=.agg [i64 e,i64 p]
def QhA (c:Nat):Bool:=QgG.getD c false
def QkS (c:Nat):Bool:=Qgu.getD c false
def QgN (c:Nat):Bool:=decide (97<=c/\c<=122\/65<=c/\c<=90\/c=95)
def Qed (c:Nat):Bool:=decide (48<=c/\c<=57)
def cls (c:Nat):Int:=if c<33/\QhA c=true then 1 else if QgN c=true then 2 else if Qed c=true then 3 else if c<126/\QkS c=true then 4 else 0
set_option maxRecDepth 100000
section
variable {H:ZG}
theorem ok71 (e p:Int):Ok Tryz.prog 71 [.ifc 115 (QE e p)] H (.ret (QE e p)) H:=by
 refine Qz hm Tryz.func71 c71 (by simp) λhcl => ?_;simp[i71,r71,QE];refine Qc (Qxg (j:=H.length+1) (a:=i64 0) (b:=i64 0) (by simp) e p) ?_;simp;refine Qq 4 hcl rfl ?_;simp
theorem QmW {n:Nat} (h:n<33):gv0[n]?.getD .any=bl (QhA n):=by
 have:n<QgG.length:=h;simp only[gv0,QhA,Vp,Vz,Ve this,VG,VX]
theorem Qmr {n:Nat} (h:n<126):gv1[n]?.getD .any=bl (QkS n):=by
 have:n<Qgu.length:=h;simp only[gv1,QkS,Vp,Vz,Ve this,VG,VX]
theorem Quk:gv0.length=33:=rfl
theorem QBy:gv1.length=126:=rfl
theorem QBV (n:Nat) (hn:n<256):Ok Tryz.prog 124 [u8 n] H (.ret (i64 (cls n))) H:=by
 refine Qz hm Tryz.func124 c124 (by simp) λhcl => ?_;have w:IntKind.i64.wrap (n:Int)=n:=Qah (by omega) (by omega);have key:∀ {v:Int},cls n=v->Cv H.length (i64 v) H (i64 (cls n)) H:=λh=>by rw[h]; exact Qj
 simp -implicitDefEqProofs[i124,r124];simp only[w,Quk,QBy];refine⟨by omega,by omega,λh=>⟨h,by rw[QmW (by omega)]; rfl⟩,?_⟩;split
 . rename_i h;have h1:n<33:=by omega
   rw[QmW h1]at h;exact key (by unfold cls; rw[Zo ⟨h1,h.2⟩])
 . rename_i h;have n1:¬ (n<33/\QhA n=true):=λh1=>h ⟨by omega,by rw[QmW h1.1]; exact h1.2⟩;refine⟨by omega,by omega,by omega,?_⟩;split
   . rename_i h2;exact key (by unfold cls; rw[Zn n1,Zo (by simp[QgN]; omega)])
   . rename_i h2;have n2:¬ QgN n=true:=by simp[QgN]; omega
     split
     . rename_i h3;exact key (by unfold cls; rw[Zn n1,Zn n2,Zo (by simp[Qed]; omega)])
     . rename_i h3;have n3:¬ Qed n=true:=by simp[Qed]; omega
       refine⟨by omega,by omega,λh=>⟨h,by rw[Qmr (by omega)]; rfl⟩,?_⟩;split
       . rename_i h4;have h5:n<126:=by omega
         rw[Qmr h5]at h4;exact key (by unfold cls; rw[Zn n1,Zn n2,Zn n3,Zo ⟨h5,h4.2⟩])
       . rename_i h4;have n4:¬ (n<126/\QkS n=true):=λh1=>h4 ⟨by omega,by rw[Qmr h1.1]; exact h1.2⟩;exact key (by unfold cls; rw[Zn n1,Zn n2,Zn n3,Zn n4])
theorem QkT (c:UInt8):Ok Tryz.prog 124 [u8 c.toNat] H (.ret (i64 (cls c.toNat))) H:=QBV c.toNat c.toNat_lt
end
end
theorem QaJ {i:Nat} (h:i<9223372036854775807):IntKind.i64.wrap ((i:Int)+1)=((i+1:Nat):Int):=QlW (by omega)
def cAt (l:ZE) (i:Nat):Int:=cls (l.getD i 0).toNat
def Qb0 (l:ZE) (cs:List Int):Nat->Nat->Nat
 |0,e=>e
 |n+1,e=>if e<l.length/\cAt l e∈cs then Qb0 l cs n (e+1)else e
def Qas (l:ZE) (cs:List Int) (e:Nat):Nat:=Qb0 l cs (l.length-e) e
theorem Qnu {l:ZE} {cs:List Int} {e:Nat} (h:e<l.length) (hc:cAt l e∈cs):Qas l cs e=Qas l cs (e+1):=by
 unfold Qas;rw[show l.length-e=(l.length-(e+1))+1 by omega];simp[Qb0,h,hc]
theorem Qh9 {l:ZE} {cs:List Int} {e:Nat} (h:¬ (e<l.length/\cAt l e∈cs)):Qas l cs e=e:=by
 unfold Qas
 cases l.length-e with
 |zero=>rfl
 |succ n=>simp[Qb0]; intro h1 h2; exact absurd ⟨h1,h2⟩ h
theorem Qp9 {l:ZE} {cs:List Int}:∀ (n e:Nat),e<=Qb0 l cs n e
 |0,e=>Vb _
 |n+1,e=>by
  simp only[Qb0]; split
  . exact Vi (by omega) (Qp9 n (e+1))
  . exact Vb _
theorem Qrp {l:ZE} {cs:List Int} (e:Nat):e<=Qas l cs e:=Qp9 _ _
theorem QqV {l:ZE} {cs:List Int}:∀ (n e:Nat),e<=l.length->Qb0 l cs n e<=l.length
 |0,e,h=>h
 |n+1,e,h=>by
  simp only[Qb0]; split
  . exact QqV n (e+1) (by omega)
  . exact h
theorem Qg6 {l:ZE} {cs:List Int} {e:Nat} (h:e<=l.length):Qas l cs e<=l.length:=QqV _ _ h
section
variable {H:ZG} {x:SV} {cs:List Int} {l:ZE}
theorem QyF (hx:IsI H x cs) (hl:l.length<4611686018427387904) (hcl:cs.length<4611686018427387904) {e:Nat} (he:e<l.length) {N:Nat} {K:ZF}
 (hyes:cAt l e∈cs->∀ env,env.get 0=st (B l)->env.get 2=x->env.get 7=i64 ((e+1:Nat):Int)->K (.exit 1) env H)
 (hno:cAt l e∉cs->∀ env,env.get 0=st (B l)->env.get 2=x->env.get 7=i64 e->K (.exit 2) env H) :
 ∀ (k i:Nat) (env:Env),i+k=cs.length->cAt l e∉cs.take i->env.get 0=st (B l)->env.get 2=x->env.get 7=i64 e->env.get 15=x->env.get 16=i64 cs.length->env.get 17=i64 i ->
  LI Tryz.prog N Qf QkC env H K:=by
 intro k
 induction k with
 |zero =>
  intro i env hi hn h0 h2 h7 h15 h16 h17;refine Qu hm QkC.eq_1 ?_;have e:i=cs.length:=by omega
  subst e;rw[VI]at hn;simp[h0,h2,h7,h15,h16,h17];exact hno hn _ (by simp) (by simp) (by simp)
 |succ k ih =>
  intro i env hi hn h0 h2 h7 h15 h16 h17;refine Qu hm QkC.eq_1 ?_;have hlt:i<cs.length:=by omega
  have hca:cls l[e].toNat=cAt l e:=by simp[cAt,he]
  simp[h0,h2,h7,h15,h16,h17,hlt,hx.vd,hx.ug,hx.sl,hx.len,hx.v hlt,hx.ok hlt,he];refine Qc (QkT l[e]) ?_;simp[h0,h2,h7,h15,h16,h17,hca];by_cases hc:cAt l e=cs[i]
  . simp[hc];refine hyes (by rw[hc]; exact Vt hlt) _ (by simp) (by simp) ?_;simp[QaJ (show e<9223372036854775807 by omega)]
  . simp[hc,QaJ (show i<9223372036854775807 by omega)];refine ih (i+1) _ (by omega) ?_ (by simp) (by simp) (by simp) (by simp) (by simp) (by simp);rw[Yy hlt];intro hm;rcases Vq.1 hm with h|h
    . exact hn h
    . exact hc (VU.1 h)
theorem QAN (hx:IsI H x cs) (hl:l.length<4611686018427387904) (hcl:cs.length<4611686018427387904) {N:Nat} {K:ZF} {e0:Nat}
 (hexit:∀ env,env.get 7=i64 (Qas l cs e0)->K (.exit 0) env H) :
 ∀ (k e:Nat) (env:Env),e+k=l.length->Qas l cs e=Qas l cs e0->env.get 0=st (B l)->env.get 2=x->env.get 7=i64 e->LI Tryz.prog N Qf QjS env H K:=by
 intro k
 induction k with
 |zero =>
  intro e env he hr h0 h2 h7;refine Qu hm QjS.eq_1 ?_;have h:e=l.length:=by omega
  have hs:=Qh9 (l:=l) (cs:=cs) (e:=e) (by omega);rw[hs]at hr;simp[h0,h2,h7,h];exact hexit _ (by simp; rw[<-hr,h])
 |succ k ih =>
  intro e env he hr h0 h2 h7;refine Qu hm QjS.eq_1 ?_;have hlt:e<l.length:=by omega
  simp[h0,h2,h7,hlt,hx.vd,hx.ug,hx.sl,hx.len];refine QyF hx hl hcl hlt (λhc env g0 g2 g7 => ?_) (λhc env g0 g2 g7 => ?_) cs.length 0 _ (by omega) (by simp) ?_ ?_ ?_ ?_ ?_ ?_
  . simp;exact ih (e+1) _ (by omega) (by rw[<-hr]; exact(Qnu hlt hc).symm) (by simp[g0]) (by simp[g2]) (by simp[g7])
  . simp;have hs:=Qh9 (l:=l) (cs:=cs) (e:=e) (λh=>hc h.2);rw[hs]at hr;exact hexit _ (by simp[g7]; rw[<-hr])
  all_goals simp
theorem QpE (hx:IsI H x cs) (hl:l.length<4611686018427387904) (hcs:cs.length<4611686018427387904) {e:Nat} (he:e<=l.length):Ok Tryz.prog 125 [st (B l),i64 e,x] H (.ret (i64 (Qas l cs e))) H:=by
 refine Qz hm Tryz.func125 c125 (by simp) λhcl => ?_;simp[i125,r125];refine QAN hx hl hcs (e0:=e) (λenv g7 => ?_) (l.length-e) e _ (by omega) rfl (by simp) (by simp) (by simp);simp[g7];exact Qj
end
def QaH:ZD:=[[61,61],[33,61],[60,61],[62,61],[46,46]]
def QdO (r:ZE):Bool:=QaH.any λp=>p.isPrefixOf r
def Qba (l:ZE) (e:Nat):Nat:=if QdO (l.drop e)=true then e+2 else if l.getD e 0=33\/l.getD e 0=46 then e else e+1
def QbM:ZE->Nat
 |[]=>0
 |c::r=>if c=10 then 0 else QbM r+1
theorem QlP:∀ l:ZE,QbM l<=l.length
 |[]=>Vb _
 |c::r=>by
  have:=QlP r;simp only[QbM,Vh];split<;>omega
theorem Qrt:∀ l:ZE,Lib.indexByte l 10=if QbM l<l.length then(QbM l:Int)else -1
 |[]=>by simp[Lib.indexByte,QbM]
 |c::r=>by
  have ih:=Qrt r;simp only[Lib.indexByte,QbM,Vh];by_cases h:c=10
  . simp[h]
  . simp only[h,Zu,Zr];rw[ih];by_cases h2:QbM r<r.length
    . simp[h2]
    . simp[h2]
theorem u8i (c d:UInt8):((c.toNat:Int)=(d.toNat:Int))↔c=d:=⟨λh=>UInt8.toNat_inj.1 (by omega),λh=>by rw[h]⟩
section
variable {H:ZG} {l:ZE}
theorem Qvd {r:ZE} {e:Nat} {N:Nat} {K:ZF}
 (hyes:QdO r=true->∀ env,env.get 4=i64 (IntKind.i64.wrap ((e:Int)+2))->K .ret env H)
 (hno:QdO r=false->∀ env,env.get 1=i64 e->env.get 5=st (B r)->K (.exit 0) env H) :
 ∀ (k i:Nat) (env:Env),i+k=5->(∀ p∈QaH.take i,p.isPrefixOf r=false)->env.get 1=i64 e->env.get 5=st (B r)->env.get 11=.agg (QaH.map λs=>st (B s))->env.get 12=i64 i ->
  LI Tryz.prog N Qf Qj6 env H K:=by
 intro k
 induction k with
 |zero =>
  intro i env hi hn h1 h5 h11 h12;refine Qu hm Qj6.eq_1 ?_;have e:i=5:=by omega
  subst e;simp[h1,h5,h11,h12];refine hno ?_ _ (by simp) (by simp);unfold QdO;rw[List.any_eq_false];intro p hp;rw[hn p hp]; simp
 |succ k ih =>
  intro i env hi hn h1 h5 h11 h12;refine Qu hm Qj6.eq_1 ?_;have hlt:i<QaH.length:=by simp[QaH]; omega
  have hl5:QaH.length=5:=rfl;have hi5:(i:Int)<5:=by omega
  have hlen:QaH[i].length=2:=by
   have:∀ p∈QaH,p.length=2:=by decide
   exact this _ (Vt hlt)
  have hg:QaH[i]? = some QaH[i]:=Ve hlt;have hmem:QaH[i]∈QaH:=Vt hlt;have htk:QaH.take (i+1)=QaH.take i++[QaH[i]]:=Yy hlt;generalize QaH[i]=d at hg hlen hmem htk;simp[h1,h5,h11,h12,hi5,hg,hl5];refine Qc (QAn r d) ?_;by_cases hp:d.isPrefixOf r=true
  . simp[h1,h5,h11,h12,hp,hlen];exact hyes (Yt.2 ⟨d,hmem,hp⟩) _ (by simp)
  . rw[Vk]at hp;simp[h1,h5,h11,h12,hp,QaJ (show i<9223372036854775807 by omega)];refine ih (i+1) _ (by omega) ?_ (by simp) (by simp) (by simp) (by simp);rw[htk];intro p hm;rcases Vq.1 hm with h|h
    . exact hn p h
    . rw[VU.1 h]; exact hp
theorem Qqj (l:ZE) (e:Nat):(l.drop e).take (l.length-e)=l.drop e:=VB (by simp)
theorem QzG {e:Nat} (he:e<l.length) (hl:l.length<4611686018427387904):Ok Tryz.prog 126 [st (B l),i64 e] H (.ret (i64 (Qba l e))) H:=by
 refine Qz hm Tryz.func126 c126 (by simp) λhcl => ?_;have hle:e<=l.length:=by omega
 have hd:(l.drop e).length=l.length-e:=by simp
 have hg:l.getD e 0=l[e]:=by simp[he]
 simp[i126,r126,hle,Qqj];refine Qvd (r:=l.drop e) (e:=e) (λhy env h4 => ?_) (λhy env h1 h5 => ?_) 5 0 _ rfl (by simp) (by simp) (by simp) (by simp[QaH]) (by simp)
 . have w:IntKind.i64.wrap ((e:Int)+2)=((e+2:Nat):Int):=by rw[Qah (by omega) (by omega)]; rfl
   simp[h4,w];simp[Qba,hy];exact Qj
 . have w:IntKind.i64.wrap ((e:Int)+1)=((e+1:Nat):Int):=by rw[Qah (by omega) (by omega)]; rfl
   have f1:((l[e].toNat:Int)=33)↔l[e]=33:=u8i l[e] 33;have f2:((l[e].toNat:Int)=46)↔l[e]=46:=u8i l[e] 46;simp[h1,h5,he];refine⟨by omega,λh=>⟨h,by omega⟩,?_⟩;simp only[f1,f2];split
   . rename_i h;have:Qba l e=e:=by unfold Qba; rw[hy,Zn (by simp),hg,Zo h]
     rw[this]; exact Qj
   . rename_i h;have:Qba l e=e+1:=by unfold Qba; rw[hy,Zn (by simp),hg,Zn h]
     rw[this,w]; exact Qj
theorem QBL {e:Nat} (he:e<=l.length) (hl:l.length<4611686018427387904):Ok Tryz.prog 127 [st (B l),i64 e] H (.ret (i64 ((e+QbM (l.drop e):Nat):Int))) H:=by
 refine Qz hm Tryz.func127 c127 (by simp) λhcl => ?_;have hd:(l.drop e).length=l.length-e:=by simp
 have hc:=QlP (l.drop e);simp[i127,r127,he,Qqj];have h56:Ok Tryz.prog 165 [st (B (l.drop e)),u8 10] H (.ret (i64 (Lib.indexByte (l.drop e) 10))) H:=by
  have:=QzS (H:=H) (l.drop e) 10;exact this
 rw[Qrt]at h56;refine Qc h56 ?_;simp;by_cases h:QbM (l.drop e)<l.length-e
 . rw[Zo h,Zo (by omega),Qah (by omega) (by omega)];exact Qj
 . rw[Zn h,Zn (by omega)];have:(l.length:Int)=(e:Int)+(QbM (l.drop e):Int):=by omega
   rw[this]; exact Qj
end
def QaD:ZE->Int->Int×Int
 |[],n=>(0,n)
 |c::r,n=>if 1000000000<10*n+((c.toNat:Int)-48)then(2,10*n+((c.toNat:Int)-48))else QaD r (10*n+((c.toNat:Int)-48))
def whE (l:ZE) (k:Int) (tx:ZE) (p:Nat):Int×Int :=
 if tx=[]\/(k=1/\0<p/\cAt l (p-1)=3)then(11,0)else if k=1/\40<tx.length then(4,0)else if k≠2 then(0,0)else if 1<tx.length/\tx.getD 0 0=48 then(3,0)else QaD tx 0
@[simp] theorem sb_get {l:ZE} {i:Nat} (h:i<(Qai (B l)).length):(Qai (B l))[i]=u8 (l[i]'(by simpa[Qai]using h)).toNat:=by simp[Qai]
theorem QzK (l:ZE):(Qai (B l)).length=l.length:=by simp[Qai]
section
variable {H A L:ZG} {l tx:ZE}
def tH1 (A L:ZG) (k:Int) (tx:ZE) (n:Int) (p:Nat):ZG:=A++⟨[i64 k,st (B tx),i64 n,i64 p],52,0,true⟩::L
theorem QxF {k:Int} {p:Nat} (hl:tx.length<4611686018427387904) (hd:∀ c∈tx,48<=c.toNat/\c.toNat<=57) {N:Nat} {K:ZF} {m0:Int}
 (hret:(QaD tx m0).1=2->∀ env,env.get 4=i64 2->K .ret env (tH1 A L k tx (QaD tx m0).2 p))
 (hexit:(QaD tx m0).1=0->∀ env,K (.exit 0) env (tH1 A L k tx (QaD tx m0).2 p)) :
 ∀ (q i:Nat) (m:Int) (env:Env),i+q=tx.length->0<=m->m<=1000000000->QaD (tx.drop i) m=QaD tx m0->env.get 1=.ptr (.own A.length 0 0 0 0) 0->env.get 73=.slc (Qai (B tx)) tx.length->env.get 74=i64 tx.length->env.get 75=i64 i ->
  LI Tryz.prog N Qf Qll env (tH1 A L k tx m p) K:=by
 intro q
 induction q with
 |zero =>
  intro i m env hi h0 hm1 hn h1 h73 h74 h75;refine Qu hm Qll.eq_1 ?_;have e:i=tx.length:=by omega
  subst e;rw[Yo]at hn;simp[h1,h73,h74,h75];have:=hexit (by rw[<-hn]; rfl);rw[<-hn]at this;exact this _
 |succ q ih =>
  intro i m env hi h0 hm1 hn h1 h73 h74 h75;refine Qu hm Qll.eq_1 ?_;have hlt:i<tx.length:=by omega
  have hc:=hd tx[i] (Vt hlt);have w1:IntKind.i64.wrap (10*m)=10*m:=Qah (by omega) (by omega);have w2:IntKind.u8.wrap ((tx[i].toNat:Int)-48)=(tx[i].toNat:Int)-48:=by unfold IntKind.wrap; simp[IntKind.signed,IntKind.bits]; omega
  have w3:IntKind.i64.wrap ((tx[i].toNat:Int)-48)=(tx[i].toNat:Int)-48:=Qah (by omega) (by omega);have w4:IntKind.i64.wrap (10*m+((tx[i].toNat:Int)-48))=10*m+((tx[i].toNat:Int)-48):=Qah (by omega) (by omega);rw[VT hlt]at hn;simp only[QaD]at hn;simp[h1,h73,h74,h75,hlt,QzK,tH1,w1,w2,w3,w4];refine⟨by omega,?_⟩;split
  . rename_i h;rw[Zo h]at hn;have:=hret (by rw[<-hn]);rw[<-hn]at this;exact this _ (by simp)
  . rename_i h;rw[Zn h]at hn;exact ih (i+1) _ _ (by omega) (by omega) (by omega) hn (by simp) (by simp) (by simp) (by simp[QaJ (show i<9223372036854775807 by omega)])
theorem Qqb (n:Int):[SV.gd true (u8 n)].map SV.strip=[u8 n]:=by simp only[Vg,VF,SV.strip,u8]
set_option maxRecDepth 100000 in
theorem QwR {k:Int} {p:Nat} (hl:l.length<4611686018427387904) (hp:p<l.length) (ht:tx.length<4611686018427387904) (hd:k=2->∀ c∈tx,48<=c.toNat/\c.toNat<=57) :
 Ok Tryz.prog 128 [st (B l),.ptr (.own A.length 0 0 0 0) 0] (tH1 A L k tx 0 p) (.ret (i64 (whE l k tx p).1)) (tH1 A L k tx (whE l k tx p).2 p):=by
 refine Qz hm Tryz.func128 c128 (by simp) λhcl => ?_;have cvv:∀ {v:Int×Int},whE l k tx p=v->Cv (A.length+(L.length+1)) (i64 v.1) (A++⟨[i64 k,st (B tx),i64 v.2,i64 p],52,0,true⟩::L) (i64 (whE l k tx p).1) (A++⟨[i64 k,st (B tx),i64 (whE l k tx p).2,i64 p],52,0,true⟩::L):=λh=>by rw[h]; exact Qj
 by_cases hA:tx=[]
 . have hw:whE l k tx p=(11,0):=by simp[whE,hA]
   simp -implicitDefEqProofs[Qls,QjK,tH1,hA];refine Qcm _ _ _ _ ?_;simp -implicitDefEqProofs;have:=cvv hw;rw[hA]at this;exact this
 . by_cases hB:k=1/\0<p
   . obtain⟨rfl,hp0⟩:=hB;have w1:IntKind.i64.wrap ((p:Int)-1)=((p-1:Nat):Int):=by rw[Qah (by omega) (by omega)]; omega
     have hlt:p-1<l.length:=by omega
     have hca:cls l[p-1].toNat=cAt l (p-1):=by simp[cAt,hlt]
     simp -implicitDefEqProofs[Qls,QjK,tH1,hA,hp0,w1,hlt];refine QZ (r:=i64 (cls l[p-1].toNat)) (λ_=>by rw[Qqb]; exact QkT _) ?_;by_cases hc:cAt l (p-1)=3
     . simp -implicitDefEqProofs[hca,hc];exact cvv (v:=(11,0)) (by simp[whE,hp0,hc])
     . simp -implicitDefEqProofs[hca,hc];split
       . exact cvv (v:=(4,0)) (by simp[whE,hA,hc]; omega)
       . exact cvv (v:=(0,0)) (by simp[whE,hA,hc]; omega)
   . have hB':(decide (k=1)&&decide (0<p))=false:=by simp; omega
     have hn1:¬ (tx=[]\/(k=1/\0<p/\cAt l (p-1)=3)):=by rintro(h|h); exact hA h; exact hB ⟨h.1,h.2.1⟩
     simp -implicitDefEqProofs[Qls,QjK,tH1,hA,hB'];refine Qcm _ _ _ _ ?_;by_cases h1:k=1
     . subst h1;simp -implicitDefEqProofs;split
       . exact cvv (v:=(4,0)) (by unfold whE; rw[Zn hn1,Zo ⟨rfl,by omega⟩])
       . exact cvv (v:=(0,0)) (by unfold whE; rw[Zn hn1,Zn (by omega),Zo (by decide)])
     . by_cases h2:k=2
       . subst h2;have hpos:0<tx.length:=Yg.2 hA;have hg:tx.getD 0 0=tx[0]:=by simp[hpos]
         have f1:((tx[0].toNat:Int)=48)↔tx[0]=48:=u8i tx[0] 48;have hw:whE l 2 tx p=if 1<tx.length/\tx[0]=48 then(3,0)else QaD tx 0:=by unfold whE; rw[Zn hn1,Zn (by omega),Zn (by omega),hg]
         simp -implicitDefEqProofs[hpos];simp only[f1];split
         . rename_i h;exact cvv (v:=(3,0)) (by rw[hw,Zo ⟨by omega,h.2⟩])
         . rename_i h;have hw2:whE l 2 tx p=QaD tx 0:=by rw[hw,Zn (λh2=>h ⟨by omega,h2.2⟩)]
           have cv2:=cvv hw2;refine QxF (m0:=0) (k:=2) (p:=p) (A:=A) (L:=L) ht (hd rfl) (λhr env h4 => ?_) (λhr env => ?_) tx.length 0 0 _ (by omega) (by omega) (by omega) (by simp) (by simp) (by simp) (by simp) (by simp)
           . rw[hr]at cv2;simp -implicitDefEqProofs[h4,tH1];exact cv2
           . rw[hr]at cv2;simp -implicitDefEqProofs[tH1];exact cv2
       . simp -implicitDefEqProofs[h1,h2];exact cvv (v:=(0,0)) (by unfold whE; rw[Zn hn1,Zn (by omega),Zo h2])
end
structure Tok where
 k:Int
 tx:ZE
 n:Int
 p:Nat
def Tok.c (t:Tok):ZH:=[i64 t.k,st (B t.tx),i64 t.n,i64 t.p]
def Tok.v (t:Tok):SV:=.agg t.c
inductive Stp where
 |skip (q:Nat)
 |tok (t:Tok) (q:Nat)
 |flt (e:Int)
def cut (l:ZE) (p q:Nat):ZE:=(l.drop p).take (q-p)
def QV (l:ZE) (p:Nat) (k:Int) (q:Nat):Stp :=
 if(whE l k (cut l p q) p).1≠0 then .flt (whE l k (cut l p q) p).1 else .tok ⟨k,cut l p q,(whE l k (cut l p q) p).2,p⟩ q
def Qx (l:ZE) (p:Nat):Stp :=
 if cAt l p=1 then .skip (p+1)else if cAt l p=2 then QV l p 1 (Qas l [2,3] p)else if cAt l p=3 then QV l p 2 (Qas l [3] p)
 else if cAt l p=4 then QV l p 3 (Qba l p)else if l.getD p 0=35 then .skip (p+QbM (l.drop p))else QV l p 0 p
inductive Ev where
 |tok (t:Tok)
 |flt (e:Int) (p:Nat)
def evs (l:ZE):Nat->Nat->List Ev
 |0,_=>[]
 |n+1,p=>if p<l.length then(match Qx l p with
  |.skip q=>evs l n q
  |.tok t q=>.tok t::evs l n q
  |.flt e=>[.flt e p])else []
def t38:IC:=match QdH with
 |.keep _ (.seq _ (.blk _ (.seq _ (.seq _ (.seq _ t)))))=>t
 |_=>.no
def zT:SV:=.agg [i64 0,st (B []),i64 0,i64 0]
section
variable {l:ZE}
theorem Qmz {p q:Nat} (h:p<=q) (hq:q<=l.length):(cut l p q).length=q-p:=by simp[cut]; omega
theorem Qkm {J:Nat->ZG->Prop} {Q:ZG->Prop} {y:Nat} {es:List Ev} (hl:l.length<4611686018427387904)
 (hJa:∀ i H L,J i H->J i (H++L))
 (hy:∀ i t H,es[i]? = some (.tok t)->J i H->YlP Tryz.prog y [t.v,.val .nilIface] H λo H'=>(o=.ret (bl true)/\J (i+1) H')\/(o=.ret (bl false)/\Q H'))
 (hf:∀ (i:Nat) (e:Int) (p:Nat) (H:ZG),es[i]? = some (.flt e p)->J i H->YlP Tryz.prog y [zT,.ifc 115 (QE e p)] H λo H'=>(∃ b,o=.ret (bl b))/\Q H')
 {N:Nat} {K:ZF} {p q i:Nat} {k:Int} {A L:ZG} {env:Env} (hp:p<l.length) (hpq:p<=q) (hq:q<=l.length)
 (hd:k=2->∀ c∈cut l p q,48<=c.toNat/\c.toNat<=57) (hJ:J i A)
 (h0:env.get 0=.yl y) (h1:env.get 1=.ptr (.slc [st (B l)] 0) 0) (h3:env.get 3=i64 p) (h4:env.get 4=.ptr (.own A.length 0 0 0 0) 0) (h5:env.get 5=i64 q)
 (hbad:∀ env H,Q H->K (.exit 0) env H)
 (hflt:∀ e,QV l p k q=.flt e->es[i]? = some (.flt e p))
 (htok:∀ t,QV l p k q=.tok t q->es[i]? = some (.tok t)/\∀ env H,J (i+1) H->env.get 0=.yl y->env.get 1=.ptr (.slc [st (B l)] 0) 0->env.get 3=i64 q->K .normal env H) :
 X Tryz.prog N Qf t38 env (A++⟨[i64 k,st ⟨#[]⟩,i64 0,i64 p],52,0,true⟩::L) K:=by
 have hc:=Qmz hpq hq;have hcut:(l.drop p).take (q-p)=cut l p q:=rfl;simp[t38,QdH,h0,h1,h3,h4,h5,hpq,hq,hcut];refine Qc (QwR (A:=A) (L:=L) (k:=k) (p:=p) (tx:=cut l p q) hl hp (by omega) hd) ?_;unfold tH1;by_cases he:(whE l k (cut l p q) p).1=0
 . have hm:QV l p k q=.tok ⟨k,cut l p q,(whE l k (cut l p q) p).2,p⟩ q:=by simp[QV,he]
   obtain⟨g1,g2⟩:=htok _ hm;generalize (whE l k (cut l p q) p).2=n at hm g1;simp[he];refine QqN (hy i _ _ g1 (hJa i A _ hJ)) ?_;rintro o H' (⟨rfl,hJ'⟩|⟨rfl,hQ⟩)
   . simp[h5];exact g2 _ _ hJ' (by simp[h0]) (by simp[h1]) (by simp)
   . simp;exact hbad _ _ hQ
 . have hm:QV l p k q=.flt (whE l k (cut l p q) p).1:=by simp[QV,he]
   have g1:=hflt _ hm;generalize (whE l k (cut l p q) p).1=e at hm g1 he;simp[he];refine QqN (hf i e p _ g1 (hJa i A _ hJ)) ?_;rintro o H' ⟨⟨b,rfl⟩,hQ⟩;simp;exact hbad _ _ hQ
end
def pA:IC->IC
 |.keep _ (.seq a _)=>a
 |_=>.no
def pB:IC->IC
 |.keep _ (.seq _ (.blk _ (.seq b _)))=>b
 |_=>.no
def pC:IC->IC
 |.keep _ (.seq _ (.blk _ (.seq _ (.seq c _))))=>c
 |_=>.no
def pD:IC->IC
 |.keep _ (.seq _ (.blk _ (.seq _ (.seq _ (.seq d _)))))=>d
 |_=>.no
theorem Qrs:QdH=.keep [0,1,3] (.seq (pA QdH) (.blk 1 (.seq (pB QdH) (.seq (pC QdH) (.seq (pD QdH) t38))))):=rfl
theorem Qv3 {l:ZE} {i:Nat} (h:i<l.length) (hc:cAt l i=3):48<=l[i].toNat/\l[i].toNat<=57:=by
 have e:cls l[i].toNat=3:=by simpa[cAt,h]using hc
 unfold cls at e;by_cases hd:Qed l[i].toNat=true
 . simpa[Qed]using hd
 . rw[Zn hd]at e;by_cases h1:l[i].toNat<33/\QhA l[i].toNat=true
   . rw[Zo h1]at e; cases e
   . rw[Zn h1]at e;split at e
     . cases e
     . split at e<;>cases e
theorem QsN {l:ZE} {cs:List Int}:∀ (n e i:Nat),e<=i->i<Qb0 l cs n e->i<l.length/\cAt l i∈cs
 |0,e,i,h1,h2=>by simp[Qb0]at h2; omega
 |n+1,e,i,h1,h2=>by
  simp only[Qb0]at h2;split at h2
  . rename_i h;by_cases hi:i=e
    . subst hi; exact h
    . exact QsN n (e+1) i (by omega) h2
  . omega
theorem Qko {l:ZE} {p:Nat}:∀ c∈cut l p (Qas l [3] p),48<=c.toNat/\c.toNat<=57:=by
 intro c hc;obtain⟨j,hj,rfl⟩:=List.mem_iff_getElem.1 hc;simp only[cut,YR,YF]at hj;have h1:=QsN (l:=l) (cs:=[3]) (l.length-p) p (p+j) (by omega) (by unfold Qas at hj; omega);have h2:=Qv3 h1.1 (by simpa using h1.2);simpa[cut]using h2
section
variable {l:ZE}
theorem Qnm {p:Nat} (h:p<l.length) (hc:l.getD p 0=35):0<QbM (l.drop p):=by
 rw[VT h];have:l[p]=35:=by simpa[h]using hc
 simp[QbM,this]
theorem Qjn {p:Nat} (hp:p<l.length):p<=Qba l p/\Qba l p<=l.length:=by
 unfold Qba;split
 . rename_i h;obtain⟨d,hd,hpre⟩:=Yt.1 h;have h2:d.length=2:=by
    have:∀ p∈QaH,p.length=2:=by decide
    exact this _ hd
   have:=(List.isPrefixOf_iff_prefix.1 hpre).length_le;simp at this;omega
 . split<;>omega
theorem QiE {p q:Nat} {k:Int} {t:Tok} (h:QV l p k q=.tok t q):p<q:=by
 unfold QV at h;by_cases hc:cut l p q=[]
 . have:(whE l k (cut l p q) p).1=11:=by unfold whE; rw[Zo (.inl hc)]
   rw[this,Zo (by decide)]at h
   cases h
 . rcases Vs p q with h1|h1
   . exact h1
   . exfalso; apply hc; simp[cut]; omega
theorem QAi {J:Nat->ZG->Prop} {Q:ZG->Prop} {y:Nat} {es:List Ev} (hl:l.length<4611686018427387904)
 (hJa:∀ i H L,J i H->J i (H++L))
 (hy:∀ i t H,es[i]? = some (.tok t)->J i H->YlP Tryz.prog y [t.v,.val .nilIface] H λo H'=>(o=.ret (bl true)/\J (i+1) H')\/(o=.ret (bl false)/\Q H'))
 (hf:∀ (i:Nat) (e:Int) (p:Nat) (H:ZG),es[i]? = some (.flt e p)->J i H->YlP Tryz.prog y [zT,.ifc 115 (QE e p)] H λo H'=>(∃ b,o=.ret (bl b))/\Q H')
 {N:Nat} {K:ZF} (hexit:∀ env H,J es.length H\/Q H->K (.exit 0) env H) :
 ∀ (n p i:Nat) (env:Env) (H:ZG),l.length<=p+n->evs l n p=es.drop i->i<=es.length->J i H->env.get 0=.yl y->env.get 1=.ptr (.slc [st (B l)] 0) 0->env.get 3=i64 p ->
  LI Tryz.prog N Qf QdH env H K:=by
 intro n
 induction n with
 |zero =>
  intro p i env H hn he hi hJ h0 h1 h3;refine Qu hm Qrs ?_;have hp:¬ p<l.length:=by omega
  have e:i=es.length:=by
   have:=Zp List.length he;simp[evs]at this; omega
  subst e;simp[pA,QdH,h0,h1,h3,hp];exact hexit _ _ (.inl hJ)
 |succ n ih =>
  intro p i env H hn he hi hJ h0 h1 h3;refine Qu hm Qrs ?_;by_cases hp:p<l.length
  . have hca:cls l[p].toNat=cAt l p:=by simp[cAt,hp]
    simp[pA,pB,pC,pD,QdH,h0,h1,h3,hp];refine Qc (QkT l[p]) ?_;simp only[evs,Zo hp]at he;have fin:∀ (k:Int) (q:Nat),Qx l p=QV l p k q->(∀ e,QV l p k q=.flt e->es[i]? = some (.flt e p))/\(∀ t,QV l p k q=.tok t q->es[i]? = some (.tok t)/\evs l n q=es.drop (i+1)/\p<q):=by
     intro k q hs;rw[hs]at he;refine⟨λe hm => ?_,λt hm => ?_⟩
     . rw[hm]at he;have:=Zp (λx=>x[0]?) he;simpa using this.symm
     . rw[hm]at he;have h1:=Zp (λx=>x[0]?) he;have h2:=Zp (λx=>x.drop 1) he;exact⟨by simpa using h1.symm,by simpa using h2,QiE hm⟩
    by_cases c1:cAt l p=1
    . have hs:Qx l p=.skip (p+1):=by simp[Qx,c1]
      rw[hs]at he;simp[hp,hca,c1];exact ih (p+1) i _ _ (by omega) he hi (hJa _ _ _ hJ) (by simp) (by simp) (by simp[QaJ (show p<9223372036854775807 by omega)])
    . by_cases c2:cAt l p=2
      . have hs:Qx l p=QV l p 1 (Qas l [2,3] p):=by simp[Qx,c2]
        obtain⟨g1,g2⟩:=fin _ _ hs;simp[hca,c2];refine Qc (QpE (cs:=[2,3]) (IsI.whole (k:=1) (T:=154) rfl rfl) hl (by decide) (by omega)) ?_;simp[hp,hca,c2];refine Qkm (k:=1) (p:=p) (q:=Qas l [2,3] p) (A:=H) hl hJa hy hf hp (Qrp _) (Qg6 (by omega)) (λh=>by cases h) hJ (by simp) (by simp) (by simp) (by simp) (by simp) (λenv H hQ => ?_) g1 (λt hm=>⟨(g2 t hm).1,λenv H hJ' k0 k1 k3 => ?_⟩)
        . simp;exact hexit _ _ (.inr hQ)
        . simp;exact ih _ (i+1) _ _ (by have:=(g2 t hm).2.2; omega) (g2 t hm).2.1 (by have:=Ql (g2 t hm).1; omega) hJ' (by simp[k0]) (by simp[k1]) (by simp[k3])
      . by_cases c3:cAt l p=3
        . have hs:Qx l p=QV l p 2 (Qas l [3] p):=by simp[Qx,c3]
          obtain⟨g1,g2⟩:=fin _ _ hs;simp[hca,c3];refine Qc (QpE (cs:=[3]) (IsI.whole (k:=1) (T:=154) rfl rfl) hl (by decide) (by omega)) ?_;simp[hp,hca,c3];refine Qkm (k:=2) (p:=p) (q:=Qas l [3] p) (A:=H) hl hJa hy hf hp (Qrp _) (Qg6 (by omega)) (λ_=>Qko) hJ (by simp) (by simp) (by simp) (by simp) (by simp) (λenv H hQ => ?_) g1 (λt hm=>⟨(g2 t hm).1,λenv H hJ' k0 k1 k3 => ?_⟩)
          . simp;exact hexit _ _ (.inr hQ)
          . simp;exact ih _ (i+1) _ _ (by have:=(g2 t hm).2.2; omega) (g2 t hm).2.1 (by have:=Ql (g2 t hm).1; omega) hJ' (by simp[k0]) (by simp[k1]) (by simp[k3])
        . by_cases c4:cAt l p=4
          . have hs:Qx l p=QV l p 3 (Qba l p):=by simp[Qx,c4]
            obtain⟨g1,g2⟩:=fin _ _ hs;simp[hca,c4];refine Qc (QzG hp hl) ?_;simp[hp,hca,c4];refine Qkm (k:=3) (p:=p) (q:=Qba l p) (A:=H) (L:=[]) hl hJa hy hf hp (Qjn hp).1 (Qjn hp).2 (λh=>by cases h) hJ (by simp) (by simp) (by simp) (by simp) (by simp) (λenv H hQ => ?_) g1 (λt hm=>⟨(g2 t hm).1,λenv H hJ' k0 k1 k3 => ?_⟩)
            . simp;exact hexit _ _ (.inr hQ)
            . simp;exact ih _ (i+1) _ _ (by have:=(g2 t hm).2.2; omega) (g2 t hm).2.1 (by have:=Ql (g2 t hm).1; omega) hJ' (by simp[k0]) (by simp[k1]) (by simp[k3])
          . have f1:((l[p].toNat:Int)=35)↔l[p]=35:=u8i l[p] 35;have hg:l.getD p 0=l[p]:=by simp[hp]
            by_cases c5:l[p]=35
            . have hs:Qx l p=.skip (p+QbM (l.drop p)):=by simp[Qx,c1,c2,c3,c4,hp,c5]
              rw[hs]at he;have hpos:=Qnm hp (by rw[hg,c5]);simp[hp,hca,c1,c2,c3,c4,f1.2 c5];refine Qc (QBL (by omega) hl) ?_;simp[hp];exact ih (p+QbM (l.drop p)) i _ _ (by omega) he hi (hJa _ _ _ hJ) (by simp) (by simp) (by simp)
            . have hs:Qx l p=QV l p 0 p:=by simp[Qx,c1,c2,c3,c4,hp,c5]
              obtain⟨g1,g2⟩:=fin _ _ hs;have c6:¬ ((l[p].toNat:Int)=35):=λh=>c5 (f1.1 h);simp[hp,hca,c1,c2,c3,c4,c6];refine Qkm (k:=0) (p:=p) (q:=p) (A:=H) (L:=[]) hl hJa hy hf hp (Vb _) (by omega) (λh=>by cases h) hJ (by simp) (by simp) (by simp) (by simp) (by simp) (λenv H hQ => ?_) g1 (λt hm=>⟨(g2 t hm).1,λenv H hJ' k0 k1 k3 => ?_⟩)
              . simp;exact hexit _ _ (.inr hQ)
              . simp;exact ih _ (i+1) _ _ (by have:=(g2 t hm).2.2; omega) (g2 t hm).2.1 (by have:=Ql (g2 t hm).1; omega) hJ' (by simp[k0]) (by simp[k1]) (by simp[k3])
  . have e:i=es.length:=by
     simp only[evs,Zn hp]at he;have:=Zp List.length he;simp at this; omega
    subst e;simp[pA,QdH,h0,h1,h3,hp];exact hexit _ _ (.inl hJ)
end
def QkG (l:ZE):SV:=.fn (.func 123) [] [.ptr (.slc [st (B l)] 0) 0]
theorem QAC {n:Nat} {ks:List Nat} {L:ZG} {d:Nat} (f:Fn) (a b:ZH):SV.fz n ks L (d+2) (.fn f a b)=.fn f (a.map (SV.fz n ks L (d+1))) (b.map (SV.fz n ks L (d+1))):=by
 conv=>lhs; unfold SV.fz
 split
 . rename_i h;rw[SV.under,Va]at h;rw[QcN _ _ _ _ h.1,QcN _ _ _ _ h.2]
 . rfl
section
variable {H:ZG} {l:ZE}
theorem ok70:Ok Tryz.prog 70 [st (B l)] H (.ret (QkG l)) H:=by
 refine Qz hm Tryz.func70 c70 (by simp) λhcl => ?_;simp[i70,r70];refine Qq 4 hcl rfl ?_;simp[QkG,QAC]
theorem Qr8 {J:Nat->ZG->Prop} {Q:ZG->Prop} {y:Nat} {es:List Ev} (hes:evs l l.length 0=es) (hl:l.length<4611686018427387904)
 (hJa:∀ i H L,J i H->J i (H++L))
 (hy:∀ i t H,es[i]? = some (.tok t)->J i H->YlP Tryz.prog y [t.v,.val .nilIface] H λo H'=>(o=.ret (bl true)/\J (i+1) H')\/(o=.ret (bl false)/\Q H'))
 (hf:∀ (i:Nat) (e:Int) (p:Nat) (H:ZG),es[i]? = some (.flt e p)->J i H->YlP Tryz.prog y [zT,.ifc 115 (QE e p)] H λo H'=>(∃ b,o=.ret (bl b))/\Q H')
 (hJ:J 0 H):OkP Tryz.prog 123 [.yl y,.ptr (.slc [st (B l)] 0) 0] H λo H'=>(∃ v,o=.ret v)/\(J es.length H'\/Q H'):=by
 refine Qbd hm Tryz.func123 c123 (by simp) λhcl => ?_;simp[i123,r123];refine QAi (J:=J) (Q:=Q) hl hJa hy hf (λenv H' hJ' => ?_) l.length 0 0 _ H (by omega) (by simpa using hes) (by omega) hJ ?_ ?_ ?_
 . simp;exact⟨_,_,⟨⟨_,rfl⟩,hJ'⟩,Qj⟩
 all_goals simp
end
def QY:List Ev->List Tok
 |[]=>[]
 |.tok t::r=>t::QY r
 |.flt _ _::r=>QY r
def QbY:Nat->List Ev->Int×Int
 |_,[]=>(0,0)
 |i,.tok t::r=>if i=5000 then(12,t.p)else QbY (i+1) r
 |_,.flt e p::_=>(e,p)
def rwT (ts:List Tok):AO:=⟨ts.flatMap Tok.c,52,ts.length,true⟩
def Qb2 (H:ZG) (lo:AO) (ts:List Tok) (L:ZG):ZG :=
 H++⟨[.val (.slice none 0 0)],48,0,true⟩::⟨[i64 0,i64 0],28,0,true⟩::⟨[.own (H.length+4) 0 ts.length 4 ts.length],48,0,true⟩::lo::rwT ts::L
def e15 (H:ZG) (c:SV):Env:=[(2,.ptr (.own H.length 0 0 0 0) 0),(3,.ptr (.own (H.length+1) 0 0 0 0) 0),(4,.ptr (.own (H.length+2) 0 0 0 0) 0),(12,c)]
@[simp] theorem if1:(SV.val Value.nilIface).isIf=true:=rfl
@[simp] theorem if2:(SV.val Value.nilIface).ifNil=true:=rfl
@[simp] theorem if3 (t:ZK) (x:SV):(SV.ifc t x).isIf=true:=rfl
@[simp] theorem if4 (t:ZK) (x:SV):(SV.ifc t x).ifNil=false:=rfl
theorem Qiw {α:Type} (ts:List α):(List.map (λ_=>4) ts).sum=ts.length*4:=by
 induction ts with
 |nil=>rfl
 |cons t r ih=>simp only[Vg,VO,ih,Vh]; omega
def Qlq (H:ZG) (c:SV) (f:Int×Int) (H':ZG):Prop :=
 ∃ a cs L,H'=H++⟨[.val (.slice none 0 0)],48,0,true⟩::⟨[i64 f.1,i64 f.2],28,0,true⟩::a::lpo Tryz.prog 37 Qf 0 [13,14] Qcy Qct cs .ret::L
section
variable {H:ZG} {l:ZE}
theorem QmS (ts:List Tok):(ts.flatMap Tok.c).length=4*ts.length:=by
 induction ts with
 |nil=>rfl
 |cons t r ih=>simp only[VV,Vj,ih,Vh]; simp[Tok.c]; omega
theorem QBx {c:SV} {ts:List Tok} {t:Tok} (hi:ts.length<5000) (L:ZG) :
 YlP Tryz.prog (H.length+3) [t.v,.val .nilIface] (Qb2 H (lpo Tryz.prog 37 Qf 0 [13,14] Qcy Qct ((e15 H c).vals 37) .ready) ts L) λo H' =>
  o=.ret (bl true)/\∃ L,H'=Qb2 H (lpo Tryz.prog 37 Qf 0 [13,14] Qcy Qct ((e15 H c).vals 37) .ready) (ts++[t]) L:=by
 refine QhY (N:=37) (env:=e15 H c) hm Qcy.eq_1 Qct.eq_1 (by simp[Qb2]; rfl) (by simp[e15]) (by decide) rfl λhcl => ?_;generalize hlo:lpo Tryz.prog 37 Qf 0 [13,14] Qcy Qct ((e15 H c).vals 37) .ready=lo;have hfm:=QmS ts;simp[e15,Qb2,rwT,Tok.v,Tok.c];have hne:¬ ((ts.length:Int)=5000):=by omega
 simp[hne,Qiw];refine⟨_,hlo.symm,by omega,by omega,_,by simp; rfl,.ready,true,_,⟨rfl,rfl⟩,⟨rfl,L++[⟨t.c,52,0,true⟩,⟨t.c,52,0,true⟩],rfl⟩,Qhy ?_⟩;simp[hlo,Tok.c]
theorem Qt5 {c:SV} {ts:List Tok} {t:Tok} (hi:ts.length=5000) (L:ZG) :
 YlP Tryz.prog (H.length+3) [t.v,.val .nilIface] (Qb2 H (lpo Tryz.prog 37 Qf 0 [13,14] Qcy Qct ((e15 H c).vals 37) .ready) ts L) λo H' =>
  o=.ret (bl false)/\Qlq H c (12,t.p) H':=by
 refine QhY (N:=37) (env:=e15 H c) hm Qcy.eq_1 Qct.eq_1 (by simp[Qb2]; rfl) (by simp[e15]) (by decide) rfl λhcl => ?_;generalize hlo:lpo Tryz.prog 37 Qf 0 [13,14] Qcy Qct ((e15 H c).vals 37) .ready=lo;have hfm:=QmS ts;simp[e15,Qb2,rwT,Tok.v,Tok.c];have hne:((ts.length:Int)=5000):=by omega
 simp[hne];refine⟨_,hlo.symm,Qc (ok71 12 t.p) ?_⟩;simp[e15,QE];refine⟨rfl,_,by simp; rfl,.ret,false,_,⟨rfl,rfl⟩,⟨rfl,⟨[.own (H.length+4) 0 ts.length 4 ts.length],48,0,true⟩,(e15 H c).vals 37,rwT ts::(L++[⟨t.c,52,0,true⟩]),rfl⟩,Qhy ?_⟩;simp[e15,rwT,Tok.c]
theorem QwM {c:SV} {ts:List Tok} {e:Int} {p:Nat} (L:ZG) :
 YlP Tryz.prog (H.length+3) [zT,.ifc 115 (QE e p)] (Qb2 H (lpo Tryz.prog 37 Qf 0 [13,14] Qcy Qct ((e15 H c).vals 37) .ready) ts L) λo H' =>
  o=.ret (bl false)/\Qlq H c (e,p) H':=by
 refine QhY (N:=37) (env:=e15 H c) hm Qcy.eq_1 Qct.eq_1 (by simp[Qb2]; rfl) (by simp[e15]) (by decide) rfl λhcl => ?_;generalize hlo:lpo Tryz.prog 37 Qf 0 [13,14] Qcy Qct ((e15 H c).vals 37) .ready=lo;simp[e15,Qb2,rwT,zT];refine⟨_,hlo.symm,Qc (ok71 e p) ?_⟩;simp[e15,QE];refine⟨rfl,_,by simp; rfl,.ret,false,_,⟨rfl,rfl⟩,⟨rfl,⟨[.own (H.length+4) 0 ts.length 4 ts.length],48,0,true⟩,(e15 H c).vals 37,rwT ts::(L++[⟨[i64 0,st (B []),i64 0,i64 0],52,0,true⟩]),rfl⟩,Qhy ?_⟩;simp[e15,rwT]
end
def QB (l:ZE):List Ev:=evs l l.length 0
def Qi (l:ZE):List Tok×Int×Int :=
 if 20000<l.length then([],4,20000)else if(QbY 0 (QB l)).1=0 then(QY (QB l),0,0)else([],QbY 0 (QB l))
def Qbc (ts:List Tok):SV:=.slc (ts.flatMap Tok.c) ts.length
theorem Qk9:∀ a b:List Ev,QY (a++b)=QY a++QY b
 |[],b=>rfl
 |.tok t::a,b=>by simp[QY,Qk9 a b]
 |.flt e p::a,b=>by simp[QY,Qk9 a b]
theorem QiL {l:ZE}:∀ (n p:Nat) {e:Int} {q:Nat},Ev.flt e q∈evs l n p->e≠0
 |0,p,e,q,h=>by simp[evs]at h
 |n+1,p,e,q,h=>by
  simp only[evs]at h;split at h
  . split at h
    . exact QiL n _ h
    . rcases Vd.1 h with h|h
      . cases h
      . exact QiL n _ h
    . rename_i e' he;rw[VU]at h
      cases h
      have key:∀ k q,QV l p k q=.flt e->e≠0:=by
       intro k q hm;unfold QV at hm;split at hm
       . rename_i hne; cases hm; exact hne
       . cases hm
      unfold Qx at he;split at he
      . cases he
      . split at he
        . exact key _ _ he
        . split at he
          . exact key _ _ he
          . split at he
            . exact key _ _ he
            . split at he
              . cases he
              . exact key _ _ he
  . simp at h
theorem Qn7 (n:Nat):∀ ts:List Tok,SV.underL n (ts.flatMap Tok.c)=true
 |[]=>rfl
 |t::r=>by rw[VV,SV.underL_append,Qn7 n r]; rfl
theorem Qxv (ts:List Tok):(ts.flatMap Tok.c).take (ts.length*4)=ts.flatMap Tok.c:=VB (by rw[QmS]; omega)
section
variable {H:ZG} {l:ZE}
theorem Ql9 (hl:l.length<4611686018427387904):Ok Tryz.prog 26 [st (B l)] H (.ret (.tup [Qbc (Qi l).1,QE (Qi l).2.1 (Qi l).2.2])) H:=by
 refine Qz hm Tryz.func26 c26 (by simp) λhcl => ?_;by_cases hs:20000<l.length
 . have hs':(20000:Int)<l.length:=by omega
   have hr:Qi l=([],4,20000):=by simp[Qi,hs]
   simp[i26,r26,hs'];refine⟨rfl,Cv.le (Qq 4 hcl rfl rfl) ?_⟩;rw[hr];simp[Qbc,QE];exact Qj9 (leL.cons QdV (leL.cons (SV.le.refl _) leL.nil))
 . have hs':¬ (20000:Int)<l.length:=by omega
   simp[i26,r26,hs'];refine Qc ok70 ?_;simp[QkG];generalize hes:QB l=es;have hmem:∀ e p,Ev.flt e p∈es->e≠0:=λe p h=>by rw[<-hes]at h; exact QiL _ _ h
   have hdrop:∀ {i:Nat} {v:Ev},es[i]? = some v->es.drop i=v::es.drop (i+1)/\es.take (i+1)=es.take i++[v]:=by
    intro i v h;have hlt:=Ql h;have e:es[i]=v:=by rw[Ve hlt]at h; exact Option.some.inj h
    exact⟨by rw[VT hlt,e],by rw[Yy hlt,e]⟩
   refine Qrx (Pt:=λo H'=>(∃ v,o=.ret v)/\((∃ L,H'=Qb2 H (lpo Tryz.prog 37 Qf 0 [13,14] Qcy Qct ((e15 H (.fn (.func 123) [] [.ptr (.slc [st (B l)] 0) 0])).vals 37) .ready) (QY es) L/\QbY 0 es=(0,0))\/(Qlq H (.fn (.func 123) [] [.ptr (.slc [st (B l)] 0) 0]) (QbY 0 es) H'/\(QbY 0 es).1≠0))) ?_ ?_
   . refine OkP.tell (Qaw.own0 (j:=H.length+2) (p:=0) (o:=⟨[.val (.slice none 0 0)],48,0,true⟩) (by simp) rfl rfl 52 4) (by simp) ?_;refine OkP.cast (args':=[.yl (H.length+3),.ptr (.slc [st (B l)] 0) 0]) (H':=Qb2 H (lpo Tryz.prog 37 Qf 0 [13,14] Qcy Qct ((e15 H (.fn (.func 123) [] [.ptr (.slc [st (B l)] 0) 0])).vals 37) .ready) [] []) (by simp) (by simp[Qb2,e15,rwT]) ?_;refine(Qr8 (J:=λi H'=>∃ L,H'=Qb2 H (lpo Tryz.prog 37 Qf 0 [13,14] Qcy Qct ((e15 H (.fn (.func 123) [] [.ptr (.slc [st (B l)] 0) 0])).vals 37) .ready) (QY (es.take i)) L/\(QY (es.take i)).length=i/\i<=5000/\QbY 0 es=QbY i (es.drop i))
      (Q:=λH'=>Qlq H (.fn (.func 123) [] [.ptr (.slc [st (B l)] 0) 0]) (QbY 0 es) H'/\(QbY 0 es).1≠0) (y:=H.length+3) (es:=es) hes hl ?_ ?_ ?_ ⟨[],by simp[QY],by simp[QY],by omega,rfl⟩).mono ?_
     . rintro i H' L' ⟨L,rfl,h1,h2,h3⟩;exact⟨L++L',by simp[Qb2],h1,h2,h3⟩
     . rintro i t H' hi ⟨L,rfl,h1,h2,h3⟩;obtain⟨d1,d2⟩:=hdrop hi;rw[d1]at h3;simp only[QbY]at h3;by_cases h5:i=5000
       . rw[Zo h5]at h3;refine(Qt5 (c:=.fn (.func 123) [] [.ptr (.slc [st (B l)] 0) 0]) (ts:=QY (es.take i)) (t:=t) (by omega) L).mono ?_;rintro o H' ⟨rfl,hq⟩;exact .inr ⟨rfl,by rw[h3]; exact hq,by rw[h3]; exact(by decide:(12:Int)≠0)⟩
       . rw[Zn h5]at h3;refine(QBx (c:=.fn (.func 123) [] [.ptr (.slc [st (B l)] 0) 0]) (ts:=QY (es.take i)) (t:=t) (by omega) L).mono ?_;rintro o H' ⟨rfl,L',hq⟩;have e2:QY (es.take (i+1))=QY (es.take i)++[t]:=by rw[d2,Qk9]; rfl
         exact .inl ⟨rfl,L',by rw[e2]; exact hq,by rw[e2]; simp[h1],by omega,h3⟩
     . rintro i e p H' hi ⟨L,rfl,h1,h2,h3⟩;obtain⟨d1,d2⟩:=hdrop hi;rw[d1]at h3;simp only[QbY]at h3;refine(QwM (c:=.fn (.func 123) [] [.ptr (.slc [st (B l)] 0) 0]) (ts:=QY (es.take i)) (e:=e) (p:=p) L).mono ?_;rintro o H' ⟨rfl,hq⟩;exact⟨⟨_,rfl⟩,by rw[h3]; exact hq,by rw[h3]; exact hmem e p (Vv hi)⟩
     . rintro o H' ⟨hv,(⟨L,rfl,h1,h2,h3⟩|hq)⟩
       . rw[VI]at *;rw[Yo]at h3;exact⟨hv,.inl ⟨L,rfl,h3⟩⟩
       . exact⟨hv,.inr hq⟩
   . rintro out H' ⟨⟨v,rfl⟩,(⟨L,rfl,hf⟩|⟨⟨a,cs,L,rfl⟩,hf⟩)⟩
     . refine⟨.ready,_,by simp[Qb2]; rfl,?_⟩;simp[Qb2];have hr:Qi l=(QY es,0,0):=by simp[Qi,hs,hes,hf]
       rw[hr];refine Qq 4 hcl rfl ?_;have e4:(List.map (λa=>a.c.length) (QY es)).sum=(QY es).length*4:=by
        have:(λa:Tok=>a.c.length)=λ_=>4:=by funext a; rfl
        rw[this,Qiw]
       simp[Qbc,QE,rwT,e4,QcN _ _ _ _ (Qn7 _ _),Qxv]
     . refine⟨.ret,_,by simp; rfl,?_⟩;simp;have hr:Qi l=([],QbY 0 es):=by simp[Qi,hs,hes,hf]
       rw[hr];refine Cv.le (Qq 4 hcl rfl rfl) ?_;simp[Qbc,QE];exact Qj9 (leL.cons QdV (leL.cons (SV.le.refl _) leL.nil))
end
end Go.Proofs.YtmkdpmfhlfhjkaaGreatDoor
