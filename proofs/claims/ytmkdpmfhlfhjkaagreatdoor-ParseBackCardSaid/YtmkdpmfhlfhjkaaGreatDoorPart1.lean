/- Steps of the proof. -/
import Derived.Shelf.Strings.Builder1
import Derived.Shelf.Strings.Builder2
import Derived.Shelf.Strings.OnBuilder
import Derived.Shelf.Small.Strs
import Derived.Shelf.Strconv.Itoa0
import Derived.Shelf.Strconv.Itoa1
import Derived.Shelf.LaysM
import Derived.Shelf.Strconv.Itoa2
import Derived.Shelf.Strconv.Itoa3
import Derived.Shelf.Strings.Search1
import Derived.Shelf.Strings.Prefix
import Derived.Shelf.Slices.Equal
import Derived.Test.YtmkdpmfhlfhjkaaGreatDoorProg
import Derived.Test.YtmkdpmfhlfhjkaaGreatDoorIr07
import Derived.Test.YtmkdpmfhlfhjkaaGreatDoorCore4
import Derived.LaidEql
import Derived.Stop.Asserts
import Derived.RowKitTokens
set_option linter.all false
namespace Go.Proofs
open Go.Shelf Go.Ab
open Go.RowKit in
def Tryz.lays137_ren:Go.Shelf.Ren:=⟨λ|137=>165|217=>194|266=>212|n=>n,λ|9=>9|5=>5|3=>3|n=>n,λ|n=>n⟩
theorem Tryz.lays137:Go.Proofs.Lays.n137 Tryz.prog Tryz.lays137_ren:={
 mixed:=by kernel_rfl
 f137:=Tryz.func165.trans (Zt some (by kernel_rfl))
 f217:=Tryz.func194.trans (Zt some (by kernel_rfl))
 f266:=Tryz.func212.trans (Zt some (by kernel_rfl))
 t3:=Tryz.underlying3
 a3:=Tryz.isAgg3
 z3:=Tryz.sizeOf3
 v3:=Tryz.zeroValue3
 t5:=Tryz.underlying5
 a5:=Tryz.isAgg5
 z5:=Tryz.sizeOf5
 v5:=Tryz.zeroValue5
 t9:=Tryz.underlying9
 a9:=Tryz.isAgg9
 z9:=Tryz.sizeOf9
 v9:=Tryz.zeroValue9 }
open Go.RowKit in
theorem Tryz.strings_IndexByte (s:ByteArray) (c:Int) (w:ZO) :
 Calls Tryz.prog 165 #[.string s,.int .u8 c] w λe w'=>e=.returned (.int .i64 (Lib.indexByte s.data.toList c.toNat.toUInt8))/\w'=w:=Any.strings_IndexByte Tryz.lays137 s c w
open Go.RowKit Go.Sort Go.Lib in
def Tryz.laysM246_ren:Go.Shelf.Ren:=⟨λ|246=>191|283=>208|284=>209|285=>210|286=>211|129=>219|317=>218|318=>220|319=>221|320=>222|337=>224|338=>225|n=>n,λ|2=>2|3=>3|9=>9|4=>4|171=>241|0=>0|53=>242|37=>83|5=>5|173=>245|212=>251|51=>252|20=>20|213=>253|46=>254|232=>257|233=>258|n=>n,λ|17=>3|18=>5|19=>6|n=>n⟩
open Go.RowKit Go.Sort Go.Lib in
def Tryz.laysM243_ren:Go.Shelf.Ren:=⟨λ|243=>158|246=>191|283=>208|284=>209|285=>210|286=>211|129=>219|317=>218|318=>220|319=>221|320=>222|337=>224|338=>225|n=>n,λ|3=>3|9=>9|2=>2|4=>4|171=>241|0=>0|53=>242|37=>83|5=>5|173=>245|212=>251|51=>252|20=>20|213=>253|46=>254|232=>257|233=>258|n=>n,λ|17=>3|18=>5|19=>6|n=>n⟩
open Go.RowKit Go.Sort Go.Lib in
def Tryz.laysM171_ren:Go.Shelf.Ren:=⟨λ|171=>106|243=>158|246=>191|283=>208|284=>209|285=>210|286=>211|129=>219|317=>218|318=>220|319=>221|320=>222|337=>224|338=>225|n=>n,λ|3=>3|9=>9|2=>2|4=>4|171=>241|0=>0|53=>242|37=>83|5=>5|173=>245|212=>251|51=>252|20=>20|213=>253|46=>254|232=>257|233=>258|n=>n,λ|17=>3|18=>5|19=>6|n=>n⟩
theorem Tryz.laysM171:Go.Proofs.LaysM.n171 Tryz.prog Tryz.laysM171_ren:={
 mixed:=by kernel_rfl
 f129:=Tryz.func219.trans (Zt some (by kernel_rfl))
 f171:=Tryz.func106.trans (Zt some (by kernel_rfl))
 f243:=Tryz.func158.trans (Zt some (by kernel_rfl))
 f246:=Tryz.func191.trans (Zt some (by kernel_rfl))
 f283:=Tryz.func208.trans (Zt some (by kernel_rfl))
 f284:=Tryz.func209.trans (Zt some (by kernel_rfl))
 f285:=Tryz.func210.trans (Zt some (by kernel_rfl))
 f286:=Tryz.func211.trans (Zt some (by kernel_rfl))
 f317:=Tryz.func218.trans (Zt some (by kernel_rfl))
 f318:=Tryz.func220.trans (Zt some (by kernel_rfl))
 f319:=Tryz.func221.trans (Zt some (by kernel_rfl))
 f320:=Tryz.func222.trans (Zt some (by kernel_rfl))
 f337:=Tryz.func224.trans (Zt some (by kernel_rfl))
 f338:=Tryz.func225.trans (Zt some (by kernel_rfl))
 t0:=Tryz.underlying0
 a0:=Tryz.isAgg0
 z0:=Tryz.sizeOf0
 v0:=Tryz.zeroValue0
 t2:=Tryz.underlying2
 a2:=Tryz.isAgg2
 z2:=Tryz.sizeOf2
 v2:=Tryz.zeroValue2
 t3:=Tryz.underlying3
 a3:=Tryz.isAgg3
 z3:=Tryz.sizeOf3
 v3:=Tryz.zeroValue3
 t4:=Tryz.underlying4
 a4:=Tryz.isAgg4
 z4:=Tryz.sizeOf4
 v4:=Tryz.zeroValue4
 t5:=Tryz.underlying5
 a5:=Tryz.isAgg5
 z5:=Tryz.sizeOf5
 v5:=Tryz.zeroValue5
 t9:=Tryz.underlying9
 a9:=Tryz.isAgg9
 z9:=Tryz.sizeOf9
 v9:=Tryz.zeroValue9
 t20:=Tryz.underlying20
 a20:=Tryz.isAgg20
 z20:=Tryz.sizeOf20
 v20:=Tryz.zeroValue20
 t37:=Tryz.underlying83
 a37:=Tryz.isAgg83
 z37:=Tryz.sizeOf83
 v37:=Tryz.zeroValue83
 t46:=Tryz.underlying254
 a46:=Tryz.isAgg254
 z46:=Tryz.sizeOf254
 v46:=Tryz.zeroValue254
 t51:=Tryz.underlying252
 a51:=Tryz.isAgg252
 z51:=Tryz.sizeOf252
 v51:=Tryz.zeroValue252
 t53:=Tryz.underlying242
 a53:=Tryz.isAgg242
 z53:=Tryz.sizeOf242
 v53:=Tryz.zeroValue242
 t171:=Tryz.underlying241
 a171:=Tryz.isAgg241
 z171:=Tryz.sizeOf241
 v171:=Tryz.zeroValue241
 t173:=Tryz.underlying245
 a173:=Tryz.isAgg245
 z173:=Tryz.sizeOf245
 v173:=Tryz.zeroValue245
 t212:=Tryz.underlying251
 a212:=Tryz.isAgg251
 z212:=Tryz.sizeOf251
 v212:=Tryz.zeroValue251
 t213:=Tryz.underlying253
 a213:=Tryz.isAgg253
 z213:=Tryz.sizeOf253
 t232:=Tryz.underlying257
 a232:=Tryz.isAgg257
 z232:=Tryz.sizeOf257
 v232:=Tryz.zeroValue257
 t233:=Tryz.underlying258
 a233:=Tryz.isAgg258
 z233:=Tryz.sizeOf258
 v233:=Tryz.zeroValue258
 g17:=by kernel_rfl
 g18:=by kernel_rfl
 g19:=by kernel_rfl
 i0:=by kernel_rfl
 i2:=by kernel_rfl
 i3:=by kernel_rfl
 i4:=by kernel_rfl
 i5:=by kernel_rfl
 i9:=by kernel_rfl
 i20:=by kernel_rfl
 i37:=by kernel_rfl
 i46:=by kernel_rfl
 i51:=by kernel_rfl
 i53:=by kernel_rfl
 i171:=by kernel_rfl
 i173:=by kernel_rfl
 i212:=by kernel_rfl
 i232:=by kernel_rfl
 i233:=by kernel_rfl
 m17:=by kernel_rfl
 m18:=by kernel_rfl
 m19:=by kernel_rfl }
open Go.RowKit Go.Sort Go.Lib in
theorem Tryz.strconv_Itoa (n : Int) (h0 : -9223372036854775808 <= n) (h1 : n <= 9223372036854775807) (w : ZO) (htab : Lib.TabIs Tryz.prog w "internal/strconv.uint64pow10" .u64 Lib.pow10Tab) :
 Calls Tryz.prog 106 #[.int .i64 n] w λe w'=>e=.returned (.string ⟨(Lib.itoa n).toArray⟩)/\∃ k os,w'=grow (w.drewN k) os:=Any.strconv_Itoa Tryz.laysM171 n h0 h1 w htab
open Go.RowKit Go.Lib in
def Tryz.lays206_ren:Go.Shelf.Ren:=⟨λ|206=>193|n=>n,λ|9=>9|4=>4|3=>3|n=>n,λ|n=>n⟩
open Go.RowKit Go.Lib in
def Tryz.lays99_ren:Go.Shelf.Ren:=⟨λ|99=>164|206=>193|n=>n,λ|9=>9|4=>4|3=>3|n=>n,λ|n=>n⟩
theorem Tryz.lays99:Go.Proofs.Lays.n99 Tryz.prog Tryz.lays99_ren:={
 mixed:=by kernel_rfl
 f99:=Tryz.func164.trans (Zt some (by kernel_rfl))
 f206:=Tryz.func193.trans (Zt some (by kernel_rfl))
 t3:=Tryz.underlying3
 a3:=Tryz.isAgg3
 z3:=Tryz.sizeOf3
 v3:=Tryz.zeroValue3
 t4:=Tryz.underlying4
 a4:=Tryz.isAgg4
 z4:=Tryz.sizeOf4
 v4:=Tryz.zeroValue4
 t9:=Tryz.underlying9
 a9:=Tryz.isAgg9
 z9:=Tryz.sizeOf9
 v9:=Tryz.zeroValue9 }
open Go.RowKit Go.Lib in
theorem Tryz.strings_HasPrefix (s p:ByteArray) (w:ZO) :
 Calls Tryz.prog 164 #[.string s,.string p] w λe w'=>e=.returned (.bool (Lib.hasPrefix s.data.toList p.data.toList))/\w'=w:=Any.strings_HasPrefix Tryz.lays99 s p w
end Go.Proofs
namespace Go.Ab
open Go.RowKit
section
variable [QO]
variable {P:ZN}
theorem QuO {S:St} {w':ZO} (h:Below S.w.heap.size S.w w'):Ext S.H.length S ⟨S.ρ,S.H,w'⟩ where
 obj:=λi p _ h=>⟨p,h,Vb _,λ_=>rfl⟩
 imm:=λk hk hn=>⟨h.block k hk,hn⟩
 size:=h.size
 shape:=λk T m hs=>by
  have hk:k<S.w.heap.size:=by
   rcases Vx k S.w.heap.size with h1|h1
   . exact h1
   . unfold World.shape? at hs; rw[V4 h1]at hs; cases hs
  unfold World.shape? at *;rw[show(⟨S.ρ,S.H,w'⟩:St).w=w' from rfl,h.block k hk]; exact hs
 loops:=λk r hk=>⟨r,by
  have hlt:k<S.w.heap.size:=Qdr hk;exact(h.block k hlt).trans hk⟩
 os:=h.os
 tape:=h.tape
 output:=h.output
theorem QCh {S:St} (hS:Sim S) {w':ZO} (h:Below S.w.heap.size S.w w'):Sim ⟨S.ρ,S.H,w'⟩ :=
 hS.step (QuO h) (Vb _) (λi p hp=>.inl ⟨hp,rfl,λb hb hl=>h.block b (hS.lt ⟨i,p,hp,hl,hb⟩)⟩) λi j o o' b hi hj hl hl' h1 h2=>hS.inj i j o o' b hi hj hl hl' h1 h2
theorem Ok.lib {f:ZP} {args:ZJ} {H:ZI} {r:Value} (he:∀ (vs:Array Value) (w:ZO),(callFunc f vs).run P w=.ok (.enter f vs) w)
 (h:∀ (S:St) (vs:ZK),Sim S->VRs S args vs->Calls P f vs.toArray S.w λe w'=>e=.returned r/\Below S.w.heap.size S.w w'):Ok P f args H (.ret (.val r)) H:=by
 refine⟨he,λS vs hH hS hv=>(h S vs hS hv).mono ?_⟩;rintro e w' ⟨h1,h2⟩;subst hH;exact⟨r,S.ρ,QuO h2,QCh hS h2,h1,.val r⟩
theorem VRs.two {S:St} {a b:Value} {vs:ZK} (h:VRs S [.val a,.val b] vs):vs=[a,b]:=by
 obtain⟨h1,h2⟩:=h
 match vs,h1 with
 |[x,y],_ =>
  have hx:=h2 0 _ x rfl rfl;have hy:=h2 1 _ y rfl rfl
  cases hx; cases hy; rfl
end
end Go.Ab
namespace Go.Proofs.YtmkdpmfhlfhjkaaGreatDoor
open Go.Ab Go.RowKit
theorem hm:Tryz.prog.follows .mixedOrders=true:=Tryz.checked.mixed
abbrev B (l:ZG):ByteArray:=⟨l.toArray⟩
@[simp] theorem QU (l:ZG):(B l).size=l.length:=by simp[ByteArray.size]
theorem QmX (s:ByteArray):s=B s.data.toList:=by obtain⟨⟨l⟩⟩:=s; rfl
@[simp] theorem B_ext (l:ZG) (a b:Nat):(B l).extract a b=B ((l.drop a).take (b-a)):=by
 have h:((B l).extract a b).data.toList=(l.drop a).take (b-a):=by
  simp[B,ByteArray.extract,ByteArray.copySlice,List.extract_eq_take_drop]
 rw[QmX ((B l).extract a b),h]
@[simp] theorem B_app (a b:ZG):B a++B b=B (a++b):=by
 rw[QmX (B a++B b)];simp[B]
theorem Qky {a b:ZG}:B a=B b↔a=b:=⟨λh=>by have:=Zt (λs=>s.data.toList) h; simpa using this,λh=>by rw[h]⟩
section
variable {H:ZI}
theorem Qwd (s p:ZG):Ok Tryz.prog 164 [st (B s),st (B p)] H (.ret (bl (p.isPrefixOf s))) H :=
 Ok.lib (enters_of Tryz.func164 (by kernel_rfl) rfl) λS vs _ hv=>by
  rw[VRs.two hv];refine(Tryz.strings_HasPrefix (B s) (B p) S.w).mono ?_;rintro e w' ⟨rfl,rfl⟩;exact⟨by simp[Lib.hasPrefix],Below.refl _ _⟩
theorem QwF (s:ZG) (c:UInt8):Ok Tryz.prog 165 [st (B s),.val (.int .u8 c.toNat)] H (.ret (V (Lib.indexByte s c))) H :=
 Ok.lib (enters_of Tryz.func165 (by kernel_rfl) rfl) λS vs _ hv=>by
  rw[VRs.two hv];refine(Tryz.strings_IndexByte (B s) c.toNat S.w).mono ?_;rintro e w' ⟨rfl,rfl⟩;exact⟨by simp,Below.refl _ _⟩
end
end Go.Proofs.YtmkdpmfhlfhjkaaGreatDoor
namespace Go.Proofs.YtmkdpmfhlfhjkaaGreatDoor
open Go.RowKit Go.Extern.Stop Go.Stop Go.Extern Go.Ab
abbrev tH (t:Nat):Value:=.pointer (some ⟨7,t,none⟩)
theorem QDn (t:Addr) (w:ZO):(ReflectliteValue.unpack (.iface 161 (.pointer (some t)))).run Tryz.prog w
 = .ok (.agg #[tH 161,.pointer (some ⟨w.heap.size,0,none⟩),.int .u64 150]) (w.alloc (.cells #[.pointer (some t)] 161)):=by kernel_rfl
theorem QwT (a : Addr) (w : ZO) : (ReflectliteValue.methodAny (ReflectliteValue.valueError "reflectlite.Value.Type" 0) (λt _ _ _ => ReflectliteType.toType t) #[.agg #[tH 161, .pointer (some a), .int .u64 150]]).run Tryz.prog w
 = .ok (.iface 225 (.agg #[tH 161])) w:=by kernel_rfl
theorem QEE (h : Value) (w : ZO) : (Go.method 385 225 (.agg #[h]) "Kind").run Tryz.prog w = .ok (240, h) w := by kernel_rfl
theorem QwH (w:ZO):((ReflectliteType.abiMethod λt=>(λa:Nat=>Value.int IntKind.u8 (a:Int)) <$> Rtype.kind t) #[tH 161]).run Tryz.prog w=.ok (.int .u8 22) w:=by kernel_rfl
theorem QxF (w:ZO):((ReflectliteType.abiMethod λt=>(λa:Nat=>Value.int IntKind.u8 (a:Int)) <$> Rtype.kind t) #[tH 115]).run Tryz.prog w=.ok (.int .u8 25) w:=by kernel_rfl
theorem rlm (z:Sem Value) (f:ZM->Addr->Nat->Nat->Sem Value) (v:Value) :
 ReflectliteValue.method z f #[v]=(do match <- ReflectliteValue.parts v with|none=>z|some (t,a,fl)=>f t a fl (fl % 32)):=rfl
theorem Qpi (a:Addr) (w:ZO):(ReflectliteValue.parts (.agg #[tH 161,.pointer (some a),.int .u64 150])).run Tryz.prog w=.ok (some (161,a,150)) w:=by kernel_rfl
theorem QvZ (a p:Addr) (W:ZO) (ha:W.cell? a=some (.pointer (some p))) :
 (ReflectliteValue.method (ReflectliteValue.valueError "reflectlite.Value.IsNil" 0) ReflectliteValue.isNil #[.agg #[tH 161, .pointer (some a), .int .u64 150]]).run Tryz.prog W = .ok (.bool false) W := by
 rw[rlm];simp only[Vo,Qpi,Result.andThen];simp[ReflectliteValue.isNil,loadVar,isAgg,underlying,Tryz.underlying161,ha,Result.andThen]
theorem QwI (h : Value) (w : ZO) : (Go.method 385 225 (.agg #[h]) "Elem").run Tryz.prog w = .ok (252, .agg #[h]) w := by kernel_rfl
theorem QvS (h : Value) (w : ZO) : (Go.method 385 225 (.agg #[h]) "Implements").run Tryz.prog w = .ok (253, .agg #[h]) w := by kernel_rfl
theorem QBP (h : Value) (w : ZO) : (Go.method 385 225 (.agg #[h]) "AssignableTo").run Tryz.prog w = .ok (250, .agg #[h]) w := by kernel_rfl
theorem QBE (w:ZO):(ReflectliteType.method ReflectliteType.elem #[.agg #[tH 161]]).run Tryz.prog w=.ok (.iface 225 (.agg #[tH 115])) w:=by kernel_rfl
theorem QDv (w : ZO) : (ReflectliteType.relation "Implements" ReflectliteType.implements_ #[.agg #[tH 115], .iface 225 (.agg #[tH 113])]).run Tryz.prog w = .ok (.bool true) w := by kernel_rfl
theorem Qwm (v:Value) (w:ZO):(ReflectliteType.typeOf #[.iface 115 v]).run Tryz.prog w=.ok (.iface 225 (.agg #[tH 115])) w:=by kernel_rfl
theorem QzX (w : ZO) : (ReflectliteType.relation "AssignableTo" ReflectliteType.assignableTo #[.agg #[tH 115], .iface 225 (.agg #[tH 115])]).run Tryz.prog w = .ok (.bool true) w := by kernel_rfl
theorem Qwt (x y:Value) (w:ZO):(ReflectliteValue.unpack (.iface 115 (.agg #[x,y]))).run Tryz.prog w
 = .ok (.agg #[tH 115,.pointer (some ⟨w.heap.size,0,none⟩),.int .u64 153]) (w.alloc (.cells #[x,y] 115)):=by kernel_rfl
theorem QCW (w:ZO):(Rtype.elem? 161).run Tryz.prog w=.ok (some 115) w:=by kernel_rfl
theorem mk62 (p:Addr) (w:ZO):(ReflectliteValue.mk 115 p ReflectliteValue.flagAddr).run Tryz.prog w=.ok (.agg #[tH 115,.pointer (some p),.int .u64 409]) w:=by kernel_rfl
theorem QC6 (a p:Addr) (W:ZO) (ha:W.cell? a=some (.pointer (some p))) :
 (ReflectliteValue.method (ReflectliteValue.valueError "reflectlite.Value.Elem" 0) ReflectliteValue.elem #[.agg #[tH 161, .pointer (some a), .int .u64 150]]).run Tryz.prog W
  = .ok (.agg #[tH 115,.pointer (some p),.int .u64 409]) W:=by
 rw[rlm];simp only[Vo,Qpi,Result.andThen];simp[ReflectliteValue.elem,loadVar,isAgg,underlying,Tryz.underlying161,ha,Result.andThen,QCW,mk62]
theorem rls (v x:Value):ReflectliteValue.set #[v,x]=(do
 let (some (dst,a,fl),some (src,b,_)):=(<- ReflectliteValue.parts v,<- ReflectliteValue.parts x)
  | unsupported (.noEntry "extern/(internal/reflectlite.Value).Set.zeroValue")
 if fl / ReflectliteValue.flagAddr % 2 == 0 then unsupported (.noEntry "extern/(internal/reflectlite.Value).Set.unaddressable")
 let val <- loadVar src b
 if <- Rtype.directlyAssignable dst src then storeVar dst a val
 else if <- Rtype.implements dst src then
  if(<- Rtype.kind src)==20 then
   match val with
   | .nilIface => unsupported (.noEntry "extern/reflectlite: a nil value of one interface type handed on as a value of another")
   |_=>storeVar dst a val
  else storeVar dst a (.iface src val)
 else panicString ("reflectlite.Set: value of type " ++ (<- Rtype.spelt src) ++ " is not assignable to type " ++ (<- Rtype.spelt dst))
 pure (.tuple #[])):=rfl
theorem QAn (a:Addr) (w:ZO):(ReflectliteValue.parts (.agg #[tH 115,.pointer (some a),.int .u64 409])).run Tryz.prog w=.ok (some (115,a,409)) w:=by kernel_rfl
theorem Qyz (a:Addr) (w:ZO):(ReflectliteValue.parts (.agg #[tH 115,.pointer (some a),.int .u64 153])).run Tryz.prog w=.ok (some (115,a,153)) w:=by kernel_rfl
theorem QEv (w:ZO):(Rtype.directlyAssignable 115 115).run Tryz.prog w=.ok true w:=by kernel_rfl
theorem QzU (bt:Nat) (b:Nat) (x y:Value) (W:ZO) (c:Array Value) (hb0:W.cell? ⟨b,0,none⟩=some x) (hb1:W.cell? ⟨b,1,none⟩=some y)
 (ht:W.heap[bt]? = some (.cells c 115 (0,0))) (hc:2<=c.size) (hx:x.oneCell'=true) (hy:y.oneCell'=true) :
 (ReflectliteValue.set #[.agg #[tH 115,.pointer (some ⟨bt,0,none⟩),.int .u64 409],.agg #[tH 115,.pointer (some ⟨b,0,none⟩),.int .u64 153]]).run Tryz.prog W
  = .ok (.tuple #[]) { W with heap:=W.heap.setIfInBounds bt (.cells ([x,y]++c.toList.drop 2).toArray 115 (0,0)) }:=by
 have hl:=run_loadCells_list (P:=Tryz.prog) W ⟨b,0,none⟩ [x,y] (by
  intro j v hj
  match j with
  |0=>simp at hj; subst hj; simpa[Addr.add]using hb0
  |1=>simp at hj; subst hj; simpa[Addr.add]using hb1
  |j+2=>simp at hj)
 have hs:=run_storeCells_at Tryz.prog bt 0 115 [x,y] 0 c W ht (by simpa using hc) (by
  intro v hv;simp at hv;rcases hv with rfl|rfl
  . exact hx
  . exact hy)
 rw[Qmi W bt _ _ 115 (0,0) ht]at hs;rw[rls];simp only[Vo,QAn,Qyz,Result.andThen];have hag:(isAgg 115).run Tryz.prog W=.ok true W:=by simp[isAgg,underlying,Tryz.underlying115]
 have hsz:(sizeOf 115).run Tryz.prog W=.ok 2 W:=Tryz.sizeOf115 W;simp only[Vh,VH]at hl;simp[ReflectliteValue.flagAddr,loadVar,hag,hsz,hl,Result.andThen,QEv,storeVar,Value.cells,hs]
def asW (w:ZO) (t:Addr) (x y:Value):ZO :=
 (((w.alloc (.cells #[.pointer (some t)] 161)).alloc (.cells #[tH 161,.pointer (some ⟨w.heap.size,0,none⟩),.int .u64 150] 199)).alloc (.cells #[tH 161,.pointer (some ⟨w.heap.size,0,none⟩),.int .u64 150] 199)).alloc (.cells #[x,y] 115)
set_option maxHeartbeats 4000000 in
theorem QBH (bt:Nat) (x y:Value) (c:Array Value) (w:ZO) (hg:w.cell? ⟨2,0,none⟩=some (.iface 225 (.agg #[tH 113]))) (ht:w.heap[bt]? = some (.cells c 115 (0,0))) (hc:2<=c.size)
 (hx:x.oneCell'=true) (hy:y.oneCell'=true) :
 Calls Tryz.prog 129 #[.iface 115 (.agg #[x,y]),.iface 161 (.pointer (some ⟨bt,0,none⟩))] w λev w'=>ev=.returned (.bool true) /\
  w'={ asW w ⟨bt,0,none⟩ x y with heap:=(asW w ⟨bt,0,none⟩ x y).heap.setIfInBounds bt (.cells ([x,y]++c.toList.drop 2).toArray 115 (0,0)) }:=by
 have h6 := @run_callFunc_extern Tryz.prog 166 _ (λargs=>ReflectliteValue.unpack (args.getD 0 (.tuple #[]))) Tryz.func166 (by kernel_rfl) (by kernel_rfl) (by kernel_rfl) (by kernel_rfl)
 have h7 := @run_callFunc_extern Tryz.prog 167 _ (ReflectliteValue.methodAny (ReflectliteValue.valueError "reflectlite.Value.Type" 0) (λt _ _ _ => ReflectliteType.toType t)) Tryz.func167 (by kernel_rfl) (by kernel_rfl) (by kernel_rfl) (by kernel_rfl)
 have h8 := @run_callFunc_extern Tryz.prog 168 _ (ReflectliteValue.method (ReflectliteValue.valueError "reflectlite.Value.IsNil" 0) ReflectliteValue.isNil) Tryz.func168 (by kernel_rfl) (by kernel_rfl) (by kernel_rfl) (by kernel_rfl)
 have h27 := @run_callFunc_extern Tryz.prog 240 _ (ReflectliteType.abiMethod λt=>do pure (.int .u8 (<- Rtype.kind t))) Tryz.func240 (by kernel_rfl) (by kernel_rfl) (by kernel_rfl) (by kernel_rfl);have h37 := @run_callFunc_extern Tryz.prog 252 _ (ReflectliteType.method ReflectliteType.elem) Tryz.func252 (by kernel_rfl) (by kernel_rfl) (by kernel_rfl) (by kernel_rfl)
 have h38 := @run_callFunc_extern Tryz.prog 253 _ (ReflectliteType.relation "Implements" ReflectliteType.implements_) Tryz.func253 (by kernel_rfl) (by kernel_rfl) (by kernel_rfl) (by kernel_rfl)
 have h10 := @run_callFunc_extern Tryz.prog 195 _ ReflectliteType.typeOf Tryz.func195 (by kernel_rfl) (by kernel_rfl) (by kernel_rfl) (by kernel_rfl)
 have h35 := @run_callFunc_extern Tryz.prog 250 _ (ReflectliteType.relation "AssignableTo" ReflectliteType.assignableTo) Tryz.func250 (by kernel_rfl) (by kernel_rfl) (by kernel_rfl) (by kernel_rfl)
 have h11 := @run_callFunc_extern Tryz.prog 196 _ (ReflectliteValue.method (ReflectliteValue.valueError "reflectlite.Value.Elem" 0) ReflectliteValue.elem) Tryz.func196 (by kernel_rfl) (by kernel_rfl) (by kernel_rfl) (by kernel_rfl)
 have h12 := @run_callFunc_extern Tryz.prog 197 _ ReflectliteValue.set Tryz.func197 (by kernel_rfl) (by kernel_rfl) (by kernel_rfl) (by kernel_rfl);have tO:=Qwm;have mA:=QBP;have a25:=QzX;have v25:=Qwt;have f6:=QDn;have f7:=QwT;have mK:=QEE;have mE:=QwI;have mI:=QvS;have k27:=QwH;have k25:=QxF;have e27:=QBE;have i25:=QDv;have hbt:bt<w.heap.size:=Qdr ht;have n8:=QvZ ⟨w.heap.size,0,none⟩ ⟨bt,0,none⟩ ((w.alloc (.cells #[.pointer (some ⟨bt,0,none⟩)] 161)).alloc (.cells #[tH 161,.pointer (some ⟨w.heap.size,0,none⟩),.int .u64 150] 199)) (by simp);have hlt:2<w.heap.size:=by
  rcases Vx 2 w.heap.size with h|h
  . exact h
  . simp[World.cell?,V4 h]at hg
 have hg2:((w.alloc (.cells #[.pointer (some ⟨bt,0,none⟩)] 161)).alloc (.cells #[tH 161,.pointer (some ⟨w.heap.size,0,none⟩),.int .u64 150] 199)).cell? ⟨2,0,none⟩=some (.iface 225 (.agg #[tH 113])):=by
  rw[World.cell?_alloc_lt _ _ ⟨2,0,none⟩ (by simp; omega),World.cell?_alloc_lt _ _ ⟨2,0,none⟩ hlt]; exact hg
 have el:=QC6 ⟨w.heap.size,0,none⟩ ⟨bt,0,none⟩ (((w.alloc (.cells #[.pointer (some ⟨bt,0,none⟩)] 161)).alloc (.cells #[tH 161,.pointer (some ⟨w.heap.size,0,none⟩),.int .u64 150] 199)).alloc (.cells #[tH 161,.pointer (some ⟨w.heap.size,0,none⟩),.int .u64 150] 199)) (by rw[World.cell?_alloc_lt _ _ ⟨w.heap.size,0,none⟩ (by simp; omega)]; simp);have hold:∀ (o1 o2 o3 o4:Obj),((((w.alloc o1).alloc o2).alloc o3).alloc o4).heap[bt]? = some (.cells c 115 (0,0)):=by
  intro o1 o2 o3 o4;rw[Qbx _ _ (by simp; omega),Qbx _ _ (by simp; omega),Qbx _ _ (by simp; omega),Qbx _ _ hbt]; exact ht
 have st:=QzU bt (w.heap.size+1+1+1) x y (asW w ⟨bt,0,none⟩ x y) c
  (by unfold asW; rw[World.cell?_alloc_at _ _ _ _ (by simp)]; rfl) (by unfold asW; rw[World.cell?_alloc_at _ _ _ _ (by simp)]; rfl) (hold _ _ _ _) hc hx hy
 unfold asW at st ⊢
 go_enter Tryz.func129,Tryz.ntmps129
 go_wp2
 refine wp_loop_rounds 1 ?_;rw[rounds_succ]
 go_wp2
 go_ret
 exact⟨rfl,rfl⟩
end Go.Proofs.YtmkdpmfhlfhjkaaGreatDoor
namespace Go.Proofs.YtmkdpmfhlfhjkaaGreatDoor
open Go.RowKit Go.Ab
theorem QoZ {S:St} {w:ZO} {o:Obj} (h:Ext S.H.length S ⟨S.ρ,S.H,w⟩):Ext S.H.length S ⟨S.ρ,S.H,w.alloc o⟩:=h.trans (QjG (S:=⟨S.ρ,S.H,w⟩) o)
section
variable {H:ZI}
theorem Qwx {j:Nat} {a b:SV} (ho:H[j]? = some ⟨[a,b],115,0,true⟩) (e p:Int) :
 Ok Tryz.prog 129 [.ifc 115 (.agg [V e,V p]),.ifc 161 (.ptr (.own j 0 0 0 0) 0)] H (.ret (bl true)) (H.set j ⟨[V e,V p],115,0,true⟩):=by
 refine⟨enters_of Tryz.func129 (by kernel_rfl) rfl,λS vs hH hS hv => ?_⟩;subst hH;obtain⟨h1,h2⟩:=hv
 match vs,h1 with
 |[x,y],_ =>
  have hx:=h2 0 _ x rfl rfl;have hy:=h2 1 _ y rfl rfl
  cases hx with
  |ifc _ _ v hv =>
  cases hy with
  |ifc _ _ u hu =>
  obtain⟨us,rfl,hus⟩:=hv.agg_inv
  cases hu with
  |ptrO _ _ _ _ _ _ ad o ho' hvl hat =>
  rw[ho]at ho'; cases ho'
  obtain⟨bt,hb,had⟩:=hat rfl;obtain⟨h3,h4⟩:=hus
  match us,h3 with
  |[x,y],_ =>
   have hx:=h4 0 _ x rfl rfl;have hy:=h4 1 _ y rfl rfl
   cases hx; cases hy
   have hlv:=hS.live j _ ho rfl;rw[hb]at hlv;obtain⟨us0,rest,hh,hvr⟩:=hlv;have hl2:us0.length=2:=hvr.1;have hg:S.w.cell? ⟨2,0,none⟩=some (.iface 225 (.agg #[tH 113])):=by
    have:=(hS.gl 2 _ rfl).1.1 0 _ rfl;simpa[Addr.add]using this
   subst had;refine(QBH bt (.int .i64 e) (.int .i64 p) _ S.w hg hh (by simp; omega) rfl rfl).mono ?_;rintro ev w' ⟨rfl,rfl⟩;have s1:=Qir (Qir (Qir (Qir hS (.cells #[.pointer (some ⟨bt,0,none⟩)] 161)) (.cells #[tH 161,.pointer (some ⟨S.w.heap.size,0,none⟩),.int .u64 150] 199)) (.cells #[tH 161,.pointer (some ⟨S.w.heap.size,0,none⟩),.int .u64 150] 199)) (.cells #[.int .i64 e,.int .i64 p] 115);have e1:Ext S.H.length S ⟨S.ρ,S.H,asW S.w ⟨bt,0,none⟩ (.int .i64 e) (.int .i64 p)⟩:=QoZ (QoZ (QoZ (QjG _)));have hbt:bt<S.w.heap.size:=Qdr hh;have hold:(asW S.w ⟨bt,0,none⟩ (.int .i64 e) (.int .i64 p)).heap[bt]? = some (.cells (us0++rest).toArray 115 (0,0)):=by
    unfold asW;rw[Qbx _ _ (by simp; omega),Qbx _ _ (by simp; omega),Qbx _ _ (by simp; omega),Qbx _ _ hbt]; exact hh
   have hd:(us0++rest).toArray.toList.drop 2=rest:=by simp[<-hl2]
   obtain⟨s2,e2⟩:=Qii (S:=⟨S.ρ,S.H,asW S.w ⟨bt,0,none⟩ (.int .i64 e) (.int .i64 p)⟩) s1 (i:=j) (o:=⟨[a,b],115,0,true⟩) (b:=bt) ho rfl hb (cells:=[V e,V p]) (ver:=0) (Vb _)
    (us:=[.int .i64 e,.int .i64 p]) (rest:=rest) hold (by simp; omega) (VRs.cons (.val _) (VRs.cons (.val _) (VRs.nil _))) (by
     intro s hs;simp at hs;rcases hs with rfl|rfl<;>exact⟨rfl,rfl⟩) (w':=_) rfl
   exact⟨.bool true,S.ρ,e1.trans (by simpa[hd]using e2),by simpa[hd]using s2,rfl,.val _⟩
end
end Go.Proofs.YtmkdpmfhlfhjkaaGreatDoor
namespace Go.Proofs.YtmkdpmfhlfhjkaaGreatDoor
open Go.Ab
section
def QG (e p:Int):SV:=.agg [V e,V p]
def Qjo (c:Nat):Bool:=QgY.getD c false
def QkU (c:Nat):Bool:=Qhp.getD c false
def QhG (c:Nat):Bool:=decide (97<=c/\c<=122\/65<=c/\c<=90\/c=95)
def Qet (c:Nat):Bool:=decide (48<=c/\c<=57)
def cls (c:Nat):Int:=if c<33/\Qjo c=true then 1 else if QhG c=true then 2 else if Qet c=true then 3 else if c<126/\QkU c=true then 4 else 0
set_option maxRecDepth 100000
section
variable {H:ZI}
theorem ok71 (e p:Int):Ok Tryz.prog 71 [.ifc 115 (QG e p)] H (.ret (QG e p)) H:=by
 refine Qt hm Tryz.func71 c71 (by simp) λZ => ?_;simp[i71,r71,QG];refine Qb (Qwx (j:=H.length+1) (a:=V 0) (b:=V 0) (by simp) e p) ?_;simp;refine Qq 4 Z rfl ?_;simp
theorem Qm5 {n:Nat} (h:n<33):gv0[n]?.getD .any=bl (Qjo n):=by
 have:n<QgY.length:=h;simp only[gv0,Qjo,Vs,Vy,Ve this,VK,V8]
theorem QnM {n:Nat} (h:n<126):gv1[n]?.getD .any=bl (QkU n):=by
 have:n<Qhp.length:=h;simp only[gv1,QkU,Vs,Vy,Ve this,VK,V8]
theorem Qy9:gv0.length=33:=rfl
theorem Qy2:gv1.length=126:=rfl
theorem Qwe (n:Nat) (hn:n<256):Ok Tryz.prog 124 [u8 n] H (.ret (V (cls n))) H:=by
 refine Qt hm Tryz.func124 c124 (by simp) λZ => ?_;have w:IntKind.i64.wrap (n:Int)=n:=Qam (by omega) (by omega);have key:∀ {v:Int},cls n=v->Cv H.length (V v) H (V (cls n)) H:=λh=>by rw[h]; exact Qi
 simp -implicitDefEqProofs[i124,r124];simp only[w,Qy9,Qy2];refine⟨by omega,by omega,λh=>⟨h,by rw[Qm5 (by omega)]; rfl⟩,?_⟩;split
 . rename_i h;have h1:n<33:=by omega
   rw[Qm5 h1]at h;exact key (by unfold cls; rw[Zr ⟨h1,h.2⟩])
 . rename_i h;have n1:¬ (n<33/\Qjo n=true):=λh1=>h ⟨by omega,by rw[Qm5 h1.1]; exact h1.2⟩;refine⟨by omega,by omega,by omega,?_⟩;split
   . rename_i h2;exact key (by unfold cls; rw[Zq n1,Zr (by simp[QhG]; omega)])
   . rename_i h2;have n2:¬ QhG n=true:=by simp[QhG]; omega
     split
     . rename_i h3;exact key (by unfold cls; rw[Zq n1,Zq n2,Zr (by simp[Qet]; omega)])
     . rename_i h3;have n3:¬ Qet n=true:=by simp[Qet]; omega
       refine⟨by omega,by omega,λh=>⟨h,by rw[QnM (by omega)]; rfl⟩,?_⟩;split
       . rename_i h4;have h5:n<126:=by omega
         rw[QnM h5]at h4;exact key (by unfold cls; rw[Zq n1,Zq n2,Zq n3,Zr ⟨h5,h4.2⟩])
       . rename_i h4;have n4:¬ (n<126/\QkU n=true):=λh1=>h4 ⟨by omega,by rw[QnM h1.1]; exact h1.2⟩;exact key (by unfold cls; rw[Zq n1,Zq n2,Zq n3,Zq n4])
theorem Qlj (c:UInt8):Ok Tryz.prog 124 [u8 c.toNat] H (.ret (V (cls c.toNat))) H:=Qwe c.toNat c.toNat_lt
end
end
theorem Qaj {i:Nat} (h:i<9223372036854775807):IntKind.i64.wrap ((i:Int)+1)=((i+1:Nat):Int):=QoW (by omega)
def ao (l:ZG) (i:Nat):Int:=cls (l.getD i 0).toNat
def Qb3 (l:ZG) (cs:List Int):Nat->Nat->Nat
 |0,e=>e
 |n+1,e=>if e<l.length/\ao l e∈cs then Qb3 l cs n (e+1)else e
def Q8 (l:ZG) (cs:List Int) (e:Nat):Nat:=Qb3 l cs (l.length-e) e
theorem QnY {l:ZG} {cs:List Int} {e:Nat} (h:e<l.length) (hc:ao l e∈cs):Q8 l cs e=Q8 l cs (e+1):=by
 unfold Q8;rw[show l.length-e=(l.length-(e+1))+1 by omega];simp[Qb3,h,hc]
theorem Qju {l:ZG} {cs:List Int} {e:Nat} (h:¬ (e<l.length/\ao l e∈cs)):Q8 l cs e=e:=by
 unfold Q8
 cases l.length-e with
 |zero=>rfl
 |succ n=>simp[Qb3]; intro h1 h2; exact absurd ⟨h1,h2⟩ h
theorem Qpa {l:ZG} {cs:List Int}:∀ (n e:Nat),e<=Qb3 l cs n e
 |0,e=>Vb _
 |n+1,e=>by
  simp only[Qb3]; split
  . exact Vf (by omega) (Qpa n (e+1))
  . exact Vb _
theorem QqG {l:ZG} {cs:List Int} (e:Nat):e<=Q8 l cs e:=Qpa _ _
theorem Qrh {l:ZG} {cs:List Int}:∀ (n e:Nat),e<=l.length->Qb3 l cs n e<=l.length
 |0,e,h=>h
 |n+1,e,h=>by
  simp only[Qb3]; split
  . exact Qrh n (e+1) (by omega)
  . exact h
theorem Qhg {l:ZG} {cs:List Int} {e:Nat} (h:e<=l.length):Q8 l cs e<=l.length:=Qrh _ _ h
section
variable {H:ZI} {x:SV} {cs:List Int} {l:ZG}
theorem QCI (hx:IsI H x cs) (hl:l.length<4611686018427387904) (Z:cs.length<4611686018427387904) {e:Nat} (he:e<l.length) {N:Nat} {K:ZH}
 (hyes:ao l e∈cs->∀ U,U.get 0=st (B l)->U.get 2=x->U.get 7=V ((e+1:Nat):Int)->K (.exit 1) U H)
 (hno:ao l e∉cs->∀ U,U.get 0=st (B l)->U.get 2=x->U.get 7=V e->K (.exit 2) U H) :
 ∀ (k i:Nat) (U:Env),i+k=cs.length->ao l e∉cs.take i->U.get 0=st (B l)->U.get 2=x->U.get 7=V e->U.get 15=x->U.get 16=V cs.length->U.get 17=V i ->
  LI Tryz.prog N Qf Qj0 U H K:=by
 intro k
 induction k with
 |zero =>
  intro i U hi hn h0 h2 h7 h15 h16 h17;refine Qp hm Qj0.eq_1 ?_;have e:i=cs.length:=by omega
  subst e;rw[VI]at hn;simp[h0,h2,h7,h15,h16,h17];exact hno hn _ (by simp) (by simp) (by simp)
 |succ k ih =>
  intro i U hi hn h0 h2 h7 h15 h16 h17;refine Qp hm Qj0.eq_1 ?_;have hlt:i<cs.length:=by omega
  have hca:cls l[e].toNat=ao l e:=by simp[ao,he]
  simp[h0,h2,h7,h15,h16,h17,hlt,hx.vd,hx.ug,hx.sl,hx.len,hx.v hlt,hx.ok hlt,he];refine Qb (Qlj l[e]) ?_;simp[h0,h2,h7,h15,h16,h17,hca];by_cases hc:ao l e=cs[i]
  . simp[hc];refine hyes (by rw[hc]; exact Vp hlt) _ (by simp) (by simp) ?_;simp[Qaj (show e<9223372036854775807 by omega)]
  . simp[hc,Qaj (show i<9223372036854775807 by omega)];refine ih (i+1) _ (by omega) ?_ (by simp) (by simp) (by simp) (by simp) (by simp) (by simp);rw[YM hlt];intro hm;rcases Vt.1 hm with h|h
    . exact hn h
    . exact hc (VX.1 h)
theorem Qxv (hx:IsI H x cs) (hl:l.length<4611686018427387904) (Z:cs.length<4611686018427387904) {N:Nat} {K:ZH} {e0:Nat}
 (ai:∀ U,U.get 7=V (Q8 l cs e0)->K (.exit 0) U H) :
 ∀ (k e:Nat) (U:Env),e+k=l.length->Q8 l cs e=Q8 l cs e0->U.get 0=st (B l)->U.get 2=x->U.get 7=V e->LI Tryz.prog N Qf Ql3 U H K:=by
 intro k
 induction k with
 |zero =>
  intro e U he hr h0 h2 h7;refine Qp hm Ql3.eq_1 ?_;have h:e=l.length:=by omega
  have hs:=Qju (l:=l) (cs:=cs) (e:=e) (by omega);rw[hs]at hr;simp[h0,h2,h7,h];exact ai _ (by simp; rw[<-hr,h])
 |succ k ih =>
  intro e U he hr h0 h2 h7;refine Qp hm Ql3.eq_1 ?_;have hlt:e<l.length:=by omega
  simp[h0,h2,h7,hlt,hx.vd,hx.ug,hx.sl,hx.len];refine QCI hx hl Z hlt (λhc U g0 g2 g7 => ?_) (λhc U g0 g2 g7 => ?_) cs.length 0 _ (by omega) (by simp) ?_ ?_ ?_ ?_ ?_ ?_
  . simp;exact ih (e+1) _ (by omega) (by rw[<-hr]; exact(QnY hlt hc).symm) (by simp[g0]) (by simp[g2]) (by simp[g7])
  . simp;have hs:=Qju (l:=l) (cs:=cs) (e:=e) (λh=>hc h.2);rw[hs]at hr;exact ai _ (by simp[g7]; rw[<-hr])
  all_goals simp
theorem Qsp (hx:IsI H x cs) (hl:l.length<4611686018427387904) (hcs:cs.length<4611686018427387904) {e:Nat} (he:e<=l.length):Ok Tryz.prog 125 [st (B l),V e,x] H (.ret (V (Q8 l cs e))) H:=by
 refine Qt hm Tryz.func125 c125 (by simp) λZ => ?_;simp[i125,r125];refine Qxv hx hl hcs (e0:=e) (λU g7 => ?_) (l.length-e) e _ (by omega) rfl (by simp) (by simp) (by simp);simp[g7];exact Qi
end
def QaO:ZF:=[[61,61],[33,61],[60,61],[62,61],[46,46]]
def Qec (r:ZG):Bool:=QaO.any λp=>p.isPrefixOf r
def Qbo (l:ZG) (e:Nat):Nat:=if Qec (l.drop e)=true then e+2 else if l.getD e 0=33\/l.getD e 0=46 then e else e+1
def QbS:ZG->Nat
 |[]=>0
 |c::r=>if c=10 then 0 else QbS r+1
theorem QnV:∀ l:ZG,QbS l<=l.length
 |[]=>Vb _
 |c::r=>by
  have:=QnV r;simp only[QbS,Vh];split<;>omega
theorem Qpc:∀ l:ZG,Lib.indexByte l 10=if QbS l<l.length then(QbS l:Int)else -1
 |[]=>by simp[Lib.indexByte,QbS]
 |c::r=>by
  have ih:=Qpc r;simp only[Lib.indexByte,QbS,Vh];by_cases h:c=10
  . simp[h]
  . simp only[h,Zx,Zu];rw[ih];by_cases h2:QbS r<r.length
    . simp[h2]
    . simp[h2]
theorem u8i (c d:UInt8):((c.toNat:Int)=(d.toNat:Int))↔c=d:=⟨λh=>UInt8.toNat_inj.1 (by omega),λh=>by rw[h]⟩
section
variable {H:ZI} {l:ZG}
theorem Qz1 {r:ZG} {e:Nat} {N:Nat} {K:ZH}
 (hyes:Qec r=true->∀ U,U.get 4=V (IntKind.i64.wrap ((e:Int)+2))->K .ret U H)
 (hno:Qec r=false->∀ U,U.get 1=V e->U.get 5=st (B r)->K (.exit 0) U H) :
 ∀ (k i:Nat) (U:Env),i+k=5->(∀ p∈QaO.take i,p.isPrefixOf r=false)->U.get 1=V e->U.get 5=st (B r)->U.get 11=.agg (QaO.map λs=>st (B s))->U.get 12=V i ->
  LI Tryz.prog N Qf Qme U H K:=by
 intro k
 induction k with
 |zero =>
  intro i U hi hn h1 h5 h11 h12;refine Qp hm Qme.eq_1 ?_;have e:i=5:=by omega
  subst e;simp[h1,h5,h11,h12];refine hno ?_ _ (by simp) (by simp);unfold Qec;rw[List.any_eq_false];intro p hp;rw[hn p hp]; simp
 |succ k ih =>
  intro i U hi hn h1 h5 h11 h12;refine Qp hm Qme.eq_1 ?_;have hlt:i<QaO.length:=by simp[QaO]; omega
  have hl5:QaO.length=5:=rfl;have hi5:(i:Int)<5:=by omega
  have hlen:QaO[i].length=2:=by
   have:∀ p∈QaO,p.length=2:=by decide
   exact this _ (Vp hlt)
  have hg:QaO[i]? = some QaO[i]:=Ve hlt;have hmem:QaO[i]∈QaO:=Vp hlt;have htk:QaO.take (i+1)=QaO.take i++[QaO[i]]:=YM hlt;generalize QaO[i]=d at hg hlen hmem htk;simp[h1,h5,h11,h12,hi5,hg,hl5];refine Qb (Qwd r d) ?_;by_cases hp:d.isPrefixOf r=true
  . simp[h1,h5,h11,h12,hp,hlen];exact hyes (Yz.2 ⟨d,hmem,hp⟩) _ (by simp)
  . rw[Vm]at hp;simp[h1,h5,h11,h12,hp,Qaj (show i<9223372036854775807 by omega)];refine ih (i+1) _ (by omega) ?_ (by simp) (by simp) (by simp) (by simp);rw[htk];intro p hm;rcases Vt.1 hm with h|h
    . exact hn p h
    . rw[VX.1 h]; exact hp
theorem QuJ (l:ZG) (e:Nat):(l.drop e).take (l.length-e)=l.drop e:=VD (by simp)
theorem QzB {e:Nat} (he:e<l.length) (hl:l.length<4611686018427387904):Ok Tryz.prog 126 [st (B l),V e] H (.ret (V (Qbo l e))) H:=by
 refine Qt hm Tryz.func126 c126 (by simp) λZ => ?_;have hle:e<=l.length:=by omega
 have hd:(l.drop e).length=l.length-e:=by simp
 have hg:l.getD e 0=l[e]:=by simp[he]
 simp[i126,r126,hle,QuJ];refine Qz1 (r:=l.drop e) (e:=e) (λhy U h4 => ?_) (λhy U h1 h5 => ?_) 5 0 _ rfl (by simp) (by simp) (by simp) (by simp[QaO]) (by simp)
 . have w:IntKind.i64.wrap ((e:Int)+2)=((e+2:Nat):Int):=by rw[Qam (by omega) (by omega)]; rfl
   simp[h4,w];simp[Qbo,hy];exact Qi
 . have w:IntKind.i64.wrap ((e:Int)+1)=((e+1:Nat):Int):=by rw[Qam (by omega) (by omega)]; rfl
   have f1:((l[e].toNat:Int)=33)↔l[e]=33:=u8i l[e] 33;have f2:((l[e].toNat:Int)=46)↔l[e]=46:=u8i l[e] 46;simp[h1,h5,he];refine⟨by omega,λh=>⟨h,by omega⟩,?_⟩;simp only[f1,f2];split
   . rename_i h;have:Qbo l e=e:=by unfold Qbo; rw[hy,Zq (by simp),hg,Zr h]
     rw[this]; exact Qi
   . rename_i h;have:Qbo l e=e+1:=by unfold Qbo; rw[hy,Zq (by simp),hg,Zq h]
     rw[this,w]; exact Qi
theorem QyL {e:Nat} (he:e<=l.length) (hl:l.length<4611686018427387904):Ok Tryz.prog 127 [st (B l),V e] H (.ret (V ((e+QbS (l.drop e):Nat):Int))) H:=by
 refine Qt hm Tryz.func127 c127 (by simp) λZ => ?_;have hd:(l.drop e).length=l.length-e:=by simp
 have hc:=QnV (l.drop e);simp[i127,r127,he,QuJ];have h56:Ok Tryz.prog 165 [st (B (l.drop e)),u8 10] H (.ret (V (Lib.indexByte (l.drop e) 10))) H:=by
  have:=QwF (H:=H) (l.drop e) 10;exact this
 rw[Qpc]at h56;refine Qb h56 ?_;simp;by_cases h:QbS (l.drop e)<l.length-e
 . rw[Zr h,Zr (by omega),Qam (by omega) (by omega)];exact Qi
 . rw[Zq h,Zq (by omega)];have:(l.length:Int)=(e:Int)+(QbS (l.drop e):Int):=by omega
   rw[this]; exact Qi
end
def Qak:ZG->Int->Int×Int
 |[],n=>(0,n)
 |c::r,n=>if 1000000000<10*n+((c.toNat:Int)-48)then(2,10*n+((c.toNat:Int)-48))else Qak r (10*n+((c.toNat:Int)-48))
def whE (l:ZG) (k:Int) (tx:ZG) (p:Nat):Int×Int :=
 if tx=[]\/(k=1/\0<p/\ao l (p-1)=3)then(11,0)else if k=1/\40<tx.length then(4,0)else if k≠2 then(0,0)else if 1<tx.length/\tx.getD 0 0=48 then(3,0)else Qak tx 0
@[simp] theorem sb_get {l:ZG} {i:Nat} (h:i<(Qag (B l)).length):(Qag (B l))[i]=u8 (l[i]'(by simpa[Qag]using h)).toNat:=by simp[Qag]
theorem QDE (l:ZG):(Qag (B l)).length=l.length:=by simp[Qag]
section
variable {H A L:ZI} {l tx:ZG}
def tH1 (A L:ZI) (k:Int) (tx:ZG) (n:Int) (p:Nat):ZI:=A++⟨[V k,st (B tx),V n,V p],52,0,true⟩::L
theorem QCB {k:Int} {p:Nat} (hl:tx.length<4611686018427387904) (hd:∀ c∈tx,48<=c.toNat/\c.toNat<=57) {N:Nat} {K:ZH} {m0:Int}
 (hret:(Qak tx m0).1=2->∀ U,U.get 4=V 2->K .ret U (tH1 A L k tx (Qak tx m0).2 p))
 (ai:(Qak tx m0).1=0->∀ U,K (.exit 0) U (tH1 A L k tx (Qak tx m0).2 p)) :
 ∀ (q i:Nat) (m:Int) (U:Env),i+q=tx.length->0<=m->m<=1000000000->Qak (tx.drop i) m=Qak tx m0->U.get 1=.ptr (.own A.length 0 0 0 0) 0->U.get 73=.slc (Qag (B tx)) tx.length->U.get 74=V tx.length->U.get 75=V i ->
  LI Tryz.prog N Qf QkX U (tH1 A L k tx m p) K:=by
 intro q
 induction q with
 |zero =>
  intro i m U hi h0 hm1 hn h1 h73 h74 h75;refine Qp hm QkX.eq_1 ?_;have e:i=tx.length:=by omega
  subst e;rw[V7]at hn;simp[h1,h73,h74,h75];have:=ai (by rw[<-hn]; rfl);rw[<-hn]at this;exact this _
 |succ q ih =>
  intro i m U hi h0 hm1 hn h1 h73 h74 h75;refine Qp hm QkX.eq_1 ?_;have hlt:i<tx.length:=by omega
  have hc:=hd tx[i] (Vp hlt);have w1:IntKind.i64.wrap (10*m)=10*m:=Qam (by omega) (by omega);have w2:IntKind.u8.wrap ((tx[i].toNat:Int)-48)=(tx[i].toNat:Int)-48:=by unfold IntKind.wrap; simp[IntKind.signed,IntKind.bits]; omega
  have w3:IntKind.i64.wrap ((tx[i].toNat:Int)-48)=(tx[i].toNat:Int)-48:=Qam (by omega) (by omega);have w4:IntKind.i64.wrap (10*m+((tx[i].toNat:Int)-48))=10*m+((tx[i].toNat:Int)-48):=Qam (by omega) (by omega);rw[VN hlt]at hn;simp only[Qak]at hn;simp[h1,h73,h74,h75,hlt,QDE,tH1,w1,w2,w3,w4];refine⟨by omega,?_⟩;split
  . rename_i h;rw[Zr h]at hn;have:=hret (by rw[<-hn]);rw[<-hn]at this;exact this _ (by simp)
  . rename_i h;rw[Zq h]at hn;exact ih (i+1) _ _ (by omega) (by omega) (by omega) hn (by simp) (by simp) (by simp) (by simp[Qaj (show i<9223372036854775807 by omega)])
theorem Qpt (n:Int):[SV.gd true (u8 n)].map SV.strip=[u8 n]:=by simp only[Vl,VM,SV.strip,u8]
set_option maxRecDepth 100000 in
theorem Qz4 {k:Int} {p:Nat} (hl:l.length<4611686018427387904) (hp:p<l.length) (ht:tx.length<4611686018427387904) (hd:k=2->∀ c∈tx,48<=c.toNat/\c.toNat<=57) :
 Ok Tryz.prog 128 [st (B l),.ptr (.own A.length 0 0 0 0) 0] (tH1 A L k tx 0 p) (.ret (V (whE l k tx p).1)) (tH1 A L k tx (whE l k tx p).2 p):=by
 refine Qt hm Tryz.func128 c128 (by simp) λZ => ?_;have cvv:∀ {v:Int×Int},whE l k tx p=v->Cv (A.length+(L.length+1)) (V v.1) (A++⟨[V k,st (B tx),V v.2,V p],52,0,true⟩::L) (V (whE l k tx p).1) (A++⟨[V k,st (B tx),V (whE l k tx p).2,V p],52,0,true⟩::L):=λh=>by rw[h]; exact Qi
 by_cases hA:tx=[]
 . have hw:whE l k tx p=(11,0):=by simp[whE,hA]
   simp -implicitDefEqProofs[QlT,QjC,tH1,hA];refine Qcf _ _ _ _ ?_;simp -implicitDefEqProofs;have:=cvv hw;rw[hA]at this;exact this
 . by_cases hB:k=1/\0<p
   . obtain⟨rfl,hp0⟩:=hB;have w1:IntKind.i64.wrap ((p:Int)-1)=((p-1:Nat):Int):=by rw[Qam (by omega) (by omega)]; omega
     have hlt:p-1<l.length:=by omega
     have hca:cls l[p-1].toNat=ao l (p-1):=by simp[ao,hlt]
     simp -implicitDefEqProofs[QlT,QjC,tH1,hA,hp0,w1,hlt];refine QL (r:=V (cls l[p-1].toNat)) (λ_=>by rw[Qpt]; exact Qlj _) ?_;by_cases hc:ao l (p-1)=3
     . simp -implicitDefEqProofs[hca,hc];exact cvv (v:=(11,0)) (by simp[whE,hp0,hc])
     . simp -implicitDefEqProofs[hca,hc];split
       . exact cvv (v:=(4,0)) (by simp[whE,hA,hc]; omega)
       . exact cvv (v:=(0,0)) (by simp[whE,hA,hc]; omega)
   . have hB':(decide (k=1)&&decide (0<p))=false:=by simp; omega
     have hn1:¬ (tx=[]\/(k=1/\0<p/\ao l (p-1)=3)):=by rintro(h|h); exact hA h; exact hB ⟨h.1,h.2.1⟩
     simp -implicitDefEqProofs[QlT,QjC,tH1,hA,hB'];refine Qcf _ _ _ _ ?_;by_cases h1:k=1
     . subst h1;simp -implicitDefEqProofs;split
       . exact cvv (v:=(4,0)) (by unfold whE; rw[Zq hn1,Zr ⟨rfl,by omega⟩])
       . exact cvv (v:=(0,0)) (by unfold whE; rw[Zq hn1,Zq (by omega),Zr (by decide)])
     . by_cases h2:k=2
       . subst h2;have hpos:0<tx.length:=Yl.2 hA;have hg:tx.getD 0 0=tx[0]:=by simp[hpos]
         have f1:((tx[0].toNat:Int)=48)↔tx[0]=48:=u8i tx[0] 48;have hw:whE l 2 tx p=if 1<tx.length/\tx[0]=48 then(3,0)else Qak tx 0:=by unfold whE; rw[Zq hn1,Zq (by omega),Zq (by omega),hg]
         simp -implicitDefEqProofs[hpos];simp only[f1];split
         . rename_i h;exact cvv (v:=(3,0)) (by rw[hw,Zr ⟨by omega,h.2⟩])
         . rename_i h;have hw2:whE l 2 tx p=Qak tx 0:=by rw[hw,Zq (λh2=>h ⟨by omega,h2.2⟩)]
           have cv2:=cvv hw2;refine QCB (m0:=0) (k:=2) (p:=p) (A:=A) (L:=L) ht (hd rfl) (λhr U h4 => ?_) (λhr U => ?_) tx.length 0 0 _ (by omega) (by omega) (by omega) (by simp) (by simp) (by simp) (by simp) (by simp)
           . rw[hr]at cv2;simp -implicitDefEqProofs[h4,tH1];exact cv2
           . rw[hr]at cv2;simp -implicitDefEqProofs[tH1];exact cv2
       . simp -implicitDefEqProofs[h1,h2];exact cvv (v:=(0,0)) (by unfold whE; rw[Zq hn1,Zq (by omega),Zr h2])
end
structure Tok where
 k:Int
 tx:ZG
 n:Int
 p:Nat
def Tok.c (t:Tok):ZJ:=[V t.k,st (B t.tx),V t.n,V t.p]
def Tok.v (t:Tok):SV:=.agg t.c
inductive Stp where
 |skip (q:Nat)
 |tok (t:Tok) (q:Nat)
 |flt (e:Int)
def cut (l:ZG) (p q:Nat):ZG:=(l.drop p).take (q-p)
def QN (l:ZG) (p:Nat) (k:Int) (q:Nat):Stp :=
 if(whE l k (cut l p q) p).1≠0 then .flt (whE l k (cut l p q) p).1 else .tok ⟨k,cut l p q,(whE l k (cut l p q) p).2,p⟩ q
def Qw (l:ZG) (p:Nat):Stp :=
 if ao l p=1 then .skip (p+1)else if ao l p=2 then QN l p 1 (Q8 l [2,3] p)else if ao l p=3 then QN l p 2 (Q8 l [3] p)
 else if ao l p=4 then QN l p 3 (Qbo l p)else if l.getD p 0=35 then .skip (p+QbS (l.drop p))else QN l p 0 p
inductive Ev where
 |tok (t:Tok)
 |flt (e:Int) (p:Nat)
def evs (l:ZG):Nat->Nat->List Ev
 |0,_=>[]
 |n+1,p=>if p<l.length then(match Qw l p with
  |.skip q=>evs l n q
  |.tok t q=>.tok t::evs l n q
  |.flt e=>[.flt e p])else []
def t38:IC:=match QdT with
 |.keep _ (.seq _ (.blk _ (.seq _ (.seq _ (.seq _ t)))))=>t
 |_=>.no
def zT:SV:=.agg [V 0,st (B []),V 0,V 0]
section
variable {l:ZG}
theorem Qm7 {p q:Nat} (h:p<=q) (hq:q<=l.length):(cut l p q).length=q-p:=by simp[cut]; omega
theorem Qmu {J:Nat->ZI->Prop} {Q:ZI->Prop} {y:Nat} {es:List Ev} (hl:l.length<4611686018427387904)
 (hJa:∀ i H L,J i H->J i (H++L))
 (hy:∀ i t H,es[i]? = some (.tok t)->J i H->YlP Tryz.prog y [t.v,.val .nilIface] H λo H'=>(o=.ret (bl true)/\J (i+1) H')\/(o=.ret (bl false)/\Q H'))
 (hf:∀ (i:Nat) (e:Int) (p:Nat) (H:ZI),es[i]? = some (.flt e p)->J i H->YlP Tryz.prog y [zT,.ifc 115 (QG e p)] H λo H'=>(∃ b,o=.ret (bl b))/\Q H')
 {N:Nat} {K:ZH} {p q i:Nat} {k:Int} {A L:ZI} {U:Env} (hp:p<l.length) (hpq:p<=q) (hq:q<=l.length)
 (hd:k=2->∀ c∈cut l p q,48<=c.toNat/\c.toNat<=57) (hJ:J i A)
 (h0:U.get 0=.yl y) (h1:U.get 1=.ptr (.slc [st (B l)] 0) 0) (h3:U.get 3=V p) (h4:U.get 4=.ptr (.own A.length 0 0 0 0) 0) (h5:U.get 5=V q)
 (hbad:∀ U H,Q H->K (.exit 0) U H)
 (hflt:∀ e,QN l p k q=.flt e->es[i]? = some (.flt e p))
 (htok:∀ t,QN l p k q=.tok t q->es[i]? = some (.tok t)/\∀ U H,J (i+1) H->U.get 0=.yl y->U.get 1=.ptr (.slc [st (B l)] 0) 0->U.get 3=V q->K .normal U H) :
 X Tryz.prog N Qf t38 U (A++⟨[V k,st ⟨#[]⟩,V 0,V p],52,0,true⟩::L) K:=by
 have hc:=Qm7 hpq hq;have hcut:(l.drop p).take (q-p)=cut l p q:=rfl;simp[t38,QdT,h0,h1,h3,h4,h5,hpq,hq,hcut];refine Qb (Qz4 (A:=A) (L:=L) (k:=k) (p:=p) (tx:=cut l p q) hl hp (by omega) hd) ?_;unfold tH1;by_cases he:(whE l k (cut l p q) p).1=0
 . have hm:QN l p k q=.tok ⟨k,cut l p q,(whE l k (cut l p q) p).2,p⟩ q:=by simp[QN,he]
   obtain⟨g1,g2⟩:=htok _ hm;generalize (whE l k (cut l p q) p).2=n at hm g1;simp[he];refine Qq6 (hy i _ _ g1 (hJa i A _ hJ)) ?_;rintro o H' (⟨rfl,hJ'⟩|⟨rfl,hQ⟩)
   . simp[h5];exact g2 _ _ hJ' (by simp[h0]) (by simp[h1]) (by simp)
   . simp;exact hbad _ _ hQ
 . have hm:QN l p k q=.flt (whE l k (cut l p q) p).1:=by simp[QN,he]
   have g1:=hflt _ hm;generalize (whE l k (cut l p q) p).1=e at hm g1 he;simp[he];refine Qq6 (hf i e p _ g1 (hJa i A _ hJ)) ?_;rintro o H' ⟨⟨b,rfl⟩,hQ⟩;simp;exact hbad _ _ hQ
end
def pA:IC->IC
 |.keep _ (.seq a _)=>a
 |_=>.no
def pB:IC->IC
 |.keep _ (.seq _ (.blk _ (.seq b _)))=>b
 |_=>.no
def pC:IC->IC
 |.keep _ (.seq _ (.blk _ (.seq _ (.seq c _))))=>c
 |_=>.no
def pD:IC->IC
 |.keep _ (.seq _ (.blk _ (.seq _ (.seq _ (.seq d _)))))=>d
 |_=>.no
theorem Qq2:QdT=.keep [0,1,3] (.seq (pA QdT) (.blk 1 (.seq (pB QdT) (.seq (pC QdT) (.seq (pD QdT) t38))))):=rfl
theorem QyK {l:ZG} {i:Nat} (h:i<l.length) (hc:ao l i=3):48<=l[i].toNat/\l[i].toNat<=57:=by
 have e:cls l[i].toNat=3:=by simpa[ao,h]using hc
 unfold cls at e;by_cases hd:Qet l[i].toNat=true
 . simpa[Qet]using hd
 . rw[Zq hd]at e;by_cases h1:l[i].toNat<33/\Qjo l[i].toNat=true
   . rw[Zr h1]at e; cases e
   . rw[Zq h1]at e;split at e
     . cases e
     . split at e<;>cases e
theorem QnF {l:ZG} {cs:List Int}:∀ (n e i:Nat),e<=i->i<Qb3 l cs n e->i<l.length/\ao l i∈cs
 |0,e,i,h1,h2=>by simp[Qb3]at h2; omega
 |n+1,e,i,h1,h2=>by
  simp only[Qb3]at h2;split at h2
  . rename_i h;by_cases hi:i=e
    . subst hi; exact h
    . exact QnF n (e+1) i (by omega) h2
  . omega
theorem Qjr {l:ZG} {p:Nat}:∀ c∈cut l p (Q8 l [3] p),48<=c.toNat/\c.toNat<=57:=by
 intro c hc;obtain⟨j,hj,rfl⟩:=List.mem_iff_getElem.1 hc;simp only[cut,Yp,Yq]at hj;have h1:=QnF (l:=l) (cs:=[3]) (l.length-p) p (p+j) (by omega) (by unfold Q8 at hj; omega);have h2:=QyK h1.1 (by simpa using h1.2);simpa[cut]using h2
section
variable {l:ZG}
theorem QoQ {p:Nat} (h:p<l.length) (hc:l.getD p 0=35):0<QbS (l.drop p):=by
 rw[VN h];have:l[p]=35:=by simpa[h]using hc
 simp[QbS,this]
theorem QlV {p:Nat} (hp:p<l.length):p<=Qbo l p/\Qbo l p<=l.length:=by
 unfold Qbo;split
 . rename_i h;obtain⟨d,hd,hpre⟩:=Yz.1 h;have h2:d.length=2:=by
    have:∀ p∈QaO,p.length=2:=by decide
    exact this _ hd
   have:=(List.isPrefixOf_iff_prefix.1 hpre).length_le;simp at this;omega
 . split<;>omega
theorem Qi2 {p q:Nat} {k:Int} {t:Tok} (h:QN l p k q=.tok t q):p<q:=by
 unfold QN at h;by_cases hc:cut l p q=[]
 . have:(whE l k (cut l p q) p).1=11:=by unfold whE; rw[Zr (.inl hc)]
   rw[this,Zr (by decide)]at h
   cases h
 . rcases Vx p q with h1|h1
   . exact h1
   . exfalso; apply hc; simp[cut]; omega
theorem QEc {J:Nat->ZI->Prop} {Q:ZI->Prop} {y:Nat} {es:List Ev} (hl:l.length<4611686018427387904)
 (hJa:∀ i H L,J i H->J i (H++L))
 (hy:∀ i t H,es[i]? = some (.tok t)->J i H->YlP Tryz.prog y [t.v,.val .nilIface] H λo H'=>(o=.ret (bl true)/\J (i+1) H')\/(o=.ret (bl false)/\Q H'))
 (hf:∀ (i:Nat) (e:Int) (p:Nat) (H:ZI),es[i]? = some (.flt e p)->J i H->YlP Tryz.prog y [zT,.ifc 115 (QG e p)] H λo H'=>(∃ b,o=.ret (bl b))/\Q H')
 {N:Nat} {K:ZH} (ai:∀ U H,J es.length H\/Q H->K (.exit 0) U H) :
 ∀ (n p i:Nat) (U:Env) (H:ZI),l.length<=p+n->evs l n p=es.drop i->i<=es.length->J i H->U.get 0=.yl y->U.get 1=.ptr (.slc [st (B l)] 0) 0->U.get 3=V p ->
  LI Tryz.prog N Qf QdT U H K:=by
 intro n
 induction n with
 |zero =>
  intro p i U H hn he hi hJ h0 h1 h3;refine Qp hm Qq2 ?_;have hp:¬ p<l.length:=by omega
  have e:i=es.length:=by
   have:=Zt List.length he;simp[evs]at this; omega
  subst e;simp[pA,QdT,h0,h1,h3,hp];exact ai _ _ (.inl hJ)
 |succ n ih =>
  intro p i U H hn he hi hJ h0 h1 h3;refine Qp hm Qq2 ?_;by_cases hp:p<l.length
  . have hca:cls l[p].toNat=ao l p:=by simp[ao,hp]
    simp[pA,pB,pC,pD,QdT,h0,h1,h3,hp];refine Qb (Qlj l[p]) ?_;simp only[evs,Zr hp]at he;have fin:∀ (k:Int) (q:Nat),Qw l p=QN l p k q->(∀ e,QN l p k q=.flt e->es[i]? = some (.flt e p))/\(∀ t,QN l p k q=.tok t q->es[i]? = some (.tok t)/\evs l n q=es.drop (i+1)/\p<q):=by
     intro k q hs;rw[hs]at he;refine⟨λe hm => ?_,λt hm => ?_⟩
     . rw[hm]at he;have:=Zt (λx=>x[0]?) he;simpa using this.symm
     . rw[hm]at he;have h1:=Zt (λx=>x[0]?) he;have h2:=Zt (λx=>x.drop 1) he;exact⟨by simpa using h1.symm,by simpa using h2,Qi2 hm⟩
    by_cases c1:ao l p=1
    . have hs:Qw l p=.skip (p+1):=by simp[Qw,c1]
      rw[hs]at he;simp[hp,hca,c1];exact ih (p+1) i _ _ (by omega) he hi (hJa _ _ _ hJ) (by simp) (by simp) (by simp[Qaj (show p<9223372036854775807 by omega)])
    . by_cases c2:ao l p=2
      . have hs:Qw l p=QN l p 1 (Q8 l [2,3] p):=by simp[Qw,c2]
        obtain⟨g1,g2⟩:=fin _ _ hs;simp[hca,c2];refine Qb (Qsp (cs:=[2,3]) (IsI.whole (k:=1) (T:=154) rfl rfl) hl (by decide) (by omega)) ?_;simp[hp,hca,c2];refine Qmu (k:=1) (p:=p) (q:=Q8 l [2,3] p) (A:=H) hl hJa hy hf hp (QqG _) (Qhg (by omega)) (λh=>by cases h) hJ (by simp) (by simp) (by simp) (by simp) (by simp) (λU H hQ => ?_) g1 (λt hm=>⟨(g2 t hm).1,λU H hJ' k0 k1 k3 => ?_⟩)
        . simp;exact ai _ _ (.inr hQ)
        . simp;exact ih _ (i+1) _ _ (by have:=(g2 t hm).2.2; omega) (g2 t hm).2.1 (by have:=Qk (g2 t hm).1; omega) hJ' (by simp[k0]) (by simp[k1]) (by simp[k3])
      . by_cases c3:ao l p=3
        . have hs:Qw l p=QN l p 2 (Q8 l [3] p):=by simp[Qw,c3]
          obtain⟨g1,g2⟩:=fin _ _ hs;simp[hca,c3];refine Qb (Qsp (cs:=[3]) (IsI.whole (k:=1) (T:=154) rfl rfl) hl (by decide) (by omega)) ?_;simp[hp,hca,c3];refine Qmu (k:=2) (p:=p) (q:=Q8 l [3] p) (A:=H) hl hJa hy hf hp (QqG _) (Qhg (by omega)) (λ_=>Qjr) hJ (by simp) (by simp) (by simp) (by simp) (by simp) (λU H hQ => ?_) g1 (λt hm=>⟨(g2 t hm).1,λU H hJ' k0 k1 k3 => ?_⟩)
          . simp;exact ai _ _ (.inr hQ)
          . simp;exact ih _ (i+1) _ _ (by have:=(g2 t hm).2.2; omega) (g2 t hm).2.1 (by have:=Qk (g2 t hm).1; omega) hJ' (by simp[k0]) (by simp[k1]) (by simp[k3])
        . by_cases c4:ao l p=4
          . have hs:Qw l p=QN l p 3 (Qbo l p):=by simp[Qw,c4]
            obtain⟨g1,g2⟩:=fin _ _ hs;simp[hca,c4];refine Qb (QzB hp hl) ?_;simp[hp,hca,c4];refine Qmu (k:=3) (p:=p) (q:=Qbo l p) (A:=H) (L:=[]) hl hJa hy hf hp (QlV hp).1 (QlV hp).2 (λh=>by cases h) hJ (by simp) (by simp) (by simp) (by simp) (by simp) (λU H hQ => ?_) g1 (λt hm=>⟨(g2 t hm).1,λU H hJ' k0 k1 k3 => ?_⟩)
            . simp;exact ai _ _ (.inr hQ)
            . simp;exact ih _ (i+1) _ _ (by have:=(g2 t hm).2.2; omega) (g2 t hm).2.1 (by have:=Qk (g2 t hm).1; omega) hJ' (by simp[k0]) (by simp[k1]) (by simp[k3])
          . have f1:((l[p].toNat:Int)=35)↔l[p]=35:=u8i l[p] 35;have hg:l.getD p 0=l[p]:=by simp[hp]
            by_cases c5:l[p]=35
            . have hs:Qw l p=.skip (p+QbS (l.drop p)):=by simp[Qw,c1,c2,c3,c4,hp,c5]
              rw[hs]at he;have hpos:=QoQ hp (by rw[hg,c5]);simp[hp,hca,c1,c2,c3,c4,f1.2 c5];refine Qb (QyL (by omega) hl) ?_;simp[hp];exact ih (p+QbS (l.drop p)) i _ _ (by omega) he hi (hJa _ _ _ hJ) (by simp) (by simp) (by simp)
            . have hs:Qw l p=QN l p 0 p:=by simp[Qw,c1,c2,c3,c4,hp,c5]
              obtain⟨g1,g2⟩:=fin _ _ hs;have c6:¬ ((l[p].toNat:Int)=35):=λh=>c5 (f1.1 h);simp[hp,hca,c1,c2,c3,c4,c6];refine Qmu (k:=0) (p:=p) (q:=p) (A:=H) (L:=[]) hl hJa hy hf hp (Vb _) (by omega) (λh=>by cases h) hJ (by simp) (by simp) (by simp) (by simp) (by simp) (λU H hQ => ?_) g1 (λt hm=>⟨(g2 t hm).1,λU H hJ' k0 k1 k3 => ?_⟩)
              . simp;exact ai _ _ (.inr hQ)
              . simp;exact ih _ (i+1) _ _ (by have:=(g2 t hm).2.2; omega) (g2 t hm).2.1 (by have:=Qk (g2 t hm).1; omega) hJ' (by simp[k0]) (by simp[k1]) (by simp[k3])
  . have e:i=es.length:=by
     simp only[evs,Zq hp]at he;have:=Zt List.length he;simp at this; omega
    subst e;simp[pA,QdT,h0,h1,h3,hp];exact ai _ _ (.inl hJ)
end
def QjI (l:ZG):SV:=.fn (.func 123) [] [.ptr (.slc [st (B l)] 0) 0]
theorem QAX {n:Nat} {ks:List Nat} {L:ZI} {d:Nat} (f:Fn) (a b:ZJ):SV.fz n ks L (d+2) (.fn f a b)=.fn f (a.map (SV.fz n ks L (d+1))) (b.map (SV.fz n ks L (d+1))):=by
 conv=>lhs; unfold SV.fz
 split
 . rename_i h;rw[SV.under,Va]at h;rw[QcY _ _ _ _ h.1,QcY _ _ _ _ h.2]
 . rfl
section
variable {H:ZI} {l:ZG}
theorem ok70:Ok Tryz.prog 70 [st (B l)] H (.ret (QjI l)) H:=by
 refine Qt hm Tryz.func70 c70 (by simp) λZ => ?_;simp[i70,r70];refine Qq 4 Z rfl ?_;simp[QjI,QAX]
theorem QtI {J:Nat->ZI->Prop} {Q:ZI->Prop} {y:Nat} {es:List Ev} (hes:evs l l.length 0=es) (hl:l.length<4611686018427387904)
 (hJa:∀ i H L,J i H->J i (H++L))
 (hy:∀ i t H,es[i]? = some (.tok t)->J i H->YlP Tryz.prog y [t.v,.val .nilIface] H λo H'=>(o=.ret (bl true)/\J (i+1) H')\/(o=.ret (bl false)/\Q H'))
 (hf:∀ (i:Nat) (e:Int) (p:Nat) (H:ZI),es[i]? = some (.flt e p)->J i H->YlP Tryz.prog y [zT,.ifc 115 (QG e p)] H λo H'=>(∃ b,o=.ret (bl b))/\Q H')
 (hJ:J 0 H):OkP Tryz.prog 123 [.yl y,.ptr (.slc [st (B l)] 0) 0] H λo H'=>(∃ v,o=.ret v)/\(J es.length H'\/Q H'):=by
 refine QaY hm Tryz.func123 c123 (by simp) λZ => ?_;simp[i123,r123];refine QEc (J:=J) (Q:=Q) hl hJa hy hf (λU H' hJ' => ?_) l.length 0 0 _ H (by omega) (by simpa using hes) (by omega) hJ ?_ ?_ ?_
 . simp;exact⟨_,_,⟨⟨_,rfl⟩,hJ'⟩,Qi⟩
 all_goals simp
end
def Q4:List Ev->List Tok
 |[]=>[]
 |.tok t::r=>t::Q4 r
 |.flt _ _::r=>Q4 r
def Qce:Nat->List Ev->Int×Int
 |_,[]=>(0,0)
 |i,.tok t::r=>if i=5000 then(12,t.p)else Qce (i+1) r
 |_,.flt e p::_=>(e,p)
def rwT (ts:List Tok):AO:=⟨ts.flatMap Tok.c,52,ts.length,true⟩
def Qco (H:ZI) (lo:AO) (ts:List Tok) (L:ZI):ZI :=
 H++⟨[.val (.slice none 0 0)],48,0,true⟩::⟨[V 0,V 0],28,0,true⟩::⟨[.own (H.length+4) 0 ts.length 4 ts.length],48,0,true⟩::lo::rwT ts::L
def e15 (H:ZI) (c:SV):Env:=[(2,.ptr (.own H.length 0 0 0 0) 0),(3,.ptr (.own (H.length+1) 0 0 0 0) 0),(4,.ptr (.own (H.length+2) 0 0 0 0) 0),(12,c)]
@[simp] theorem if1:(SV.val Value.nilIface).isIf=true:=rfl
@[simp] theorem if2:(SV.val Value.nilIface).ifNil=true:=rfl
@[simp] theorem if3 (t:ZM) (x:SV):(SV.ifc t x).isIf=true:=rfl
@[simp] theorem if4 (t:ZM) (x:SV):(SV.ifc t x).ifNil=false:=rfl
theorem Qke {α:Type} (ts:List α):(List.map (λ_=>4) ts).sum=ts.length*4:=by
 induction ts with
 |nil=>rfl
 |cons t r ih=>simp only[Vl,VY,ih,Vh]; omega
def QlH (H:ZI) (c:SV) (f:Int×Int) (H':ZI):Prop :=
 ∃ a cs L,H'=H++⟨[.val (.slice none 0 0)],48,0,true⟩::⟨[V f.1,V f.2],28,0,true⟩::a::lpo Tryz.prog 37 Qf 0 [13,14] QcE QcO cs .ret::L
section
variable {H:ZI} {l:ZG}
theorem QnW (ts:List Tok):(ts.flatMap Tok.c).length=4*ts.length:=by
 induction ts with
 |nil=>rfl
 |cons t r ih=>simp only[VO,Vj,ih,Vh]; simp[Tok.c]; omega
theorem QCU {c:SV} {ts:List Tok} {t:Tok} (hi:ts.length<5000) (L:ZI) :
 YlP Tryz.prog (H.length+3) [t.v,.val .nilIface] (Qco H (lpo Tryz.prog 37 Qf 0 [13,14] QcE QcO ((e15 H c).vals 37) .ready) ts L) λo H' =>
  o=.ret (bl true)/\∃ L,H'=Qco H (lpo Tryz.prog 37 Qf 0 [13,14] QcE QcO ((e15 H c).vals 37) .ready) (ts++[t]) L:=by
 refine Qjd (N:=37) (U:=e15 H c) hm QcE.eq_1 QcO.eq_1 (by simp[Qco]; rfl) (by simp[e15]) (by decide) rfl λZ => ?_;generalize hlo:lpo Tryz.prog 37 Qf 0 [13,14] QcE QcO ((e15 H c).vals 37) .ready=lo;have hfm:=QnW ts;simp[e15,Qco,rwT,Tok.v,Tok.c];have hne:¬ ((ts.length:Int)=5000):=by omega
 simp[hne,Qke];refine⟨_,hlo.symm,by omega,by omega,_,by simp; rfl,.ready,true,_,⟨rfl,rfl⟩,⟨rfl,L++[⟨t.c,52,0,true⟩,⟨t.c,52,0,true⟩],rfl⟩,QiU ?_⟩;simp[hlo,Tok.c]
theorem QCT {c:SV} {ts:List Tok} {t:Tok} (hi:ts.length=5000) (L:ZI) :
 YlP Tryz.prog (H.length+3) [t.v,.val .nilIface] (Qco H (lpo Tryz.prog 37 Qf 0 [13,14] QcE QcO ((e15 H c).vals 37) .ready) ts L) λo H' =>
  o=.ret (bl false)/\QlH H c (12,t.p) H':=by
 refine Qjd (N:=37) (U:=e15 H c) hm QcE.eq_1 QcO.eq_1 (by simp[Qco]; rfl) (by simp[e15]) (by decide) rfl λZ => ?_;generalize hlo:lpo Tryz.prog 37 Qf 0 [13,14] QcE QcO ((e15 H c).vals 37) .ready=lo;have hfm:=QnW ts;simp[e15,Qco,rwT,Tok.v,Tok.c];have hne:((ts.length:Int)=5000):=by omega
 simp[hne];refine⟨_,hlo.symm,Qb (ok71 12 t.p) ?_⟩;simp[e15,QG];refine⟨rfl,_,by simp; rfl,.ret,false,_,⟨rfl,rfl⟩,⟨rfl,⟨[.own (H.length+4) 0 ts.length 4 ts.length],48,0,true⟩,(e15 H c).vals 37,rwT ts::(L++[⟨t.c,52,0,true⟩]),rfl⟩,QiU ?_⟩;simp[e15,rwT,Tok.c]
theorem QAc {c:SV} {ts:List Tok} {e:Int} {p:Nat} (L:ZI) :
 YlP Tryz.prog (H.length+3) [zT,.ifc 115 (QG e p)] (Qco H (lpo Tryz.prog 37 Qf 0 [13,14] QcE QcO ((e15 H c).vals 37) .ready) ts L) λo H' =>
  o=.ret (bl false)/\QlH H c (e,p) H':=by
 refine Qjd (N:=37) (U:=e15 H c) hm QcE.eq_1 QcO.eq_1 (by simp[Qco]; rfl) (by simp[e15]) (by decide) rfl λZ => ?_;generalize hlo:lpo Tryz.prog 37 Qf 0 [13,14] QcE QcO ((e15 H c).vals 37) .ready=lo;simp[e15,Qco,rwT,zT];refine⟨_,hlo.symm,Qb (ok71 e p) ?_⟩;simp[e15,QG];refine⟨rfl,_,by simp; rfl,.ret,false,_,⟨rfl,rfl⟩,⟨rfl,⟨[.own (H.length+4) 0 ts.length 4 ts.length],48,0,true⟩,(e15 H c).vals 37,rwT ts::(L++[⟨[V 0,st (B []),V 0,V 0],52,0,true⟩]),rfl⟩,QiU ?_⟩;simp[e15,rwT]
end
def QaA (l:ZG):List Ev:=evs l l.length 0
def QB (l:ZG):List Tok×Int×Int :=
 if 20000<l.length then([],4,20000)else if(Qce 0 (QaA l)).1=0 then(Q4 (QaA l),0,0)else([],Qce 0 (QaA l))
def Qbl (ts:List Tok):SV:=.slc (ts.flatMap Tok.c) ts.length
theorem QmC:∀ a b:List Ev,Q4 (a++b)=Q4 a++Q4 b
 |[],b=>rfl
 |.tok t::a,b=>by simp[Q4,QmC a b]
 |.flt e p::a,b=>by simp[Q4,QmC a b]
theorem QlD {l:ZG}:∀ (n p:Nat) {e:Int} {q:Nat},Ev.flt e q∈evs l n p->e≠0
 |0,p,e,q,h=>by simp[evs]at h
 |n+1,p,e,q,h=>by
  simp only[evs]at h;split at h
  . split at h
    . exact QlD n _ h
    . rcases Vd.1 h with h|h
      . cases h
      . exact QlD n _ h
    . rename_i e' he;rw[VX]at h
      cases h
      have key:∀ k q,QN l p k q=.flt e->e≠0:=by
       intro k q hm;unfold QN at hm;split at hm
       . rename_i hne; cases hm; exact hne
       . cases hm
      unfold Qw at he;split at he
      . cases he
      . split at he
        . exact key _ _ he
        . split at he
          . exact key _ _ he
          . split at he
            . exact key _ _ he
            . split at he
              . cases he
              . exact key _ _ he
  . simp at h
theorem QmO (n:Nat):∀ ts:List Tok,SV.underL n (ts.flatMap Tok.c)=true
 |[]=>rfl
 |t::r=>by rw[VO,SV.underL_append,QmO n r]; rfl
theorem QEd (ts:List Tok):(ts.flatMap Tok.c).take (ts.length*4)=ts.flatMap Tok.c:=VD (by rw[QnW]; omega)
section
variable {H:ZI} {l:ZG}
theorem ok26 (hl:l.length<4611686018427387904):Ok Tryz.prog 26 [st (B l)] H (.ret (.tup [Qbl (QB l).1,QG (QB l).2.1 (QB l).2.2])) H:=by
 refine Qt hm Tryz.func26 c26 (by simp) λZ => ?_;by_cases hs:20000<l.length
 . have hs':(20000:Int)<l.length:=by omega
   have hr:QB l=([],4,20000):=by simp[QB,hs]
   simp[i26,r26,hs'];refine⟨rfl,Cv.le (Qq 4 Z rfl rfl) ?_⟩;rw[hr];simp[Qbl,QG];exact Ql0 (leL.cons QdA (leL.cons (SV.le.refl _) leL.nil))
 . have hs':¬ (20000:Int)<l.length:=by omega
   simp[i26,r26,hs'];refine Qb ok70 ?_;simp[QjI];generalize hes:QaA l=es;have hmem:∀ e p,Ev.flt e p∈es->e≠0:=λe p h=>by rw[<-hes]at h; exact QlD _ _ h
   have hdrop:∀ {i:Nat} {v:Ev},es[i]? = some v->es.drop i=v::es.drop (i+1)/\es.take (i+1)=es.take i++[v]:=by
    intro i v h;have hlt:=Qk h;have e:es[i]=v:=by rw[Ve hlt]at h; exact Option.some.inj h
    exact⟨by rw[VN hlt,e],by rw[YM hlt,e]⟩
   refine QsD (Pt:=λo H'=>(∃ v,o=.ret v)/\((∃ L,H'=Qco H (lpo Tryz.prog 37 Qf 0 [13,14] QcE QcO ((e15 H (.fn (.func 123) [] [.ptr (.slc [st (B l)] 0) 0])).vals 37) .ready) (Q4 es) L/\Qce 0 es=(0,0))\/(QlH H (.fn (.func 123) [] [.ptr (.slc [st (B l)] 0) 0]) (Qce 0 es) H'/\(Qce 0 es).1≠0))) ?_ ?_
   . refine OkP.tell (Qat.own0 (j:=H.length+2) (p:=0) (o:=⟨[.val (.slice none 0 0)],48,0,true⟩) (by simp) rfl rfl 52 4) (by simp) ?_;refine OkP.cast (args':=[.yl (H.length+3),.ptr (.slc [st (B l)] 0) 0]) (H':=Qco H (lpo Tryz.prog 37 Qf 0 [13,14] QcE QcO ((e15 H (.fn (.func 123) [] [.ptr (.slc [st (B l)] 0) 0])).vals 37) .ready) [] []) (by simp) (by simp[Qco,e15,rwT]) ?_;refine(QtI (J:=λi H'=>∃ L,H'=Qco H (lpo Tryz.prog 37 Qf 0 [13,14] QcE QcO ((e15 H (.fn (.func 123) [] [.ptr (.slc [st (B l)] 0) 0])).vals 37) .ready) (Q4 (es.take i)) L/\(Q4 (es.take i)).length=i/\i<=5000/\Qce 0 es=Qce i (es.drop i))
      (Q:=λH'=>QlH H (.fn (.func 123) [] [.ptr (.slc [st (B l)] 0) 0]) (Qce 0 es) H'/\(Qce 0 es).1≠0) (y:=H.length+3) (es:=es) hes hl ?_ ?_ ?_ ⟨[],by simp[Q4],by simp[Q4],by omega,rfl⟩).mono ?_
     . rintro i H' L' ⟨L,rfl,h1,h2,h3⟩;exact⟨L++L',by simp[Qco],h1,h2,h3⟩
     . rintro i t H' hi ⟨L,rfl,h1,h2,h3⟩;obtain⟨d1,d2⟩:=hdrop hi;rw[d1]at h3;simp only[Qce]at h3;by_cases h5:i=5000
       . rw[Zr h5]at h3;refine(QCT (c:=.fn (.func 123) [] [.ptr (.slc [st (B l)] 0) 0]) (ts:=Q4 (es.take i)) (t:=t) (by omega) L).mono ?_;rintro o H' ⟨rfl,hq⟩;exact .inr ⟨rfl,by rw[h3]; exact hq,by rw[h3]; exact(by decide:(12:Int)≠0)⟩
       . rw[Zq h5]at h3;refine(QCU (c:=.fn (.func 123) [] [.ptr (.slc [st (B l)] 0) 0]) (ts:=Q4 (es.take i)) (t:=t) (by omega) L).mono ?_;rintro o H' ⟨rfl,L',hq⟩;have e2:Q4 (es.take (i+1))=Q4 (es.take i)++[t]:=by rw[d2,QmC]; rfl
         exact .inl ⟨rfl,L',by rw[e2]; exact hq,by rw[e2]; simp[h1],by omega,h3⟩
     . rintro i e p H' hi ⟨L,rfl,h1,h2,h3⟩;obtain⟨d1,d2⟩:=hdrop hi;rw[d1]at h3;simp only[Qce]at h3;refine(QAc (c:=.fn (.func 123) [] [.ptr (.slc [st (B l)] 0) 0]) (ts:=Q4 (es.take i)) (e:=e) (p:=p) L).mono ?_;rintro o H' ⟨rfl,hq⟩;exact⟨⟨_,rfl⟩,by rw[h3]; exact hq,by rw[h3]; exact hmem e p (Vw hi)⟩
     . rintro o H' ⟨hv,(⟨L,rfl,h1,h2,h3⟩|hq)⟩
       . rw[VI]at *;rw[V7]at h3;exact⟨hv,.inl ⟨L,rfl,h3⟩⟩
       . exact⟨hv,.inr hq⟩
   . rintro out H' ⟨⟨v,rfl⟩,(⟨L,rfl,hf⟩|⟨⟨a,cs,L,rfl⟩,hf⟩)⟩
     . refine⟨.ready,_,by simp[Qco]; rfl,?_⟩;simp[Qco];have hr:QB l=(Q4 es,0,0):=by simp[QB,hs,hes,hf]
       rw[hr];refine Qq 4 Z rfl ?_;have e4:(List.map (λa=>a.c.length) (Q4 es)).sum=(Q4 es).length*4:=by
        have:(λa:Tok=>a.c.length)=λ_=>4:=by funext a; rfl
        rw[this,Qke]
       simp[Qbl,QG,rwT,e4,QcY _ _ _ _ (QmO _ _),QEd]
     . refine⟨.ret,_,by simp; rfl,?_⟩;simp;have hr:QB l=([],Qce 0 es):=by simp[QB,hs,hes,hf]
       rw[hr];refine Cv.le (Qq 4 Z rfl rfl) ?_;simp[Qbl,QG];exact Ql0 (leL.cons QdA (leL.cons (SV.le.refl _) leL.nil))
end
def whtB (c:Nat):Bool:=decide (c=32\/c=9\/c=10)
theorem Qwf:((List.range 256).all λn=>(decide (cls n=2)==QhG n)&&(decide (cls n=3)==Qet n)&&(decide (cls n=1)==whtB n)&&(decide (cls n=4)==(decide (n=33\/n=46)||(([123,125,40,41,58,59,44,43,45,42,47,37,60,62,61]:List Nat).contains n))))=true:=by kernel_rfl
theorem QC2 {n:Nat} (h:n<256):(cls n=2↔QhG n=true)/\(cls n=3↔Qet n=true)/\(cls n=1↔whtB n=true)/\(cls n=4↔((n=33\/n=46)\/n∈([123,125,40,41,58,59,44,43,45,42,47,37,60,62,61]:List Nat))):=by
 have:=Vi.1 Qwf n (V3.2 h);simp only[Va,Zu]at this;obtain⟨⟨⟨h1,h2⟩,h3⟩,h4⟩:=this;refine⟨?_,?_,?_,?_⟩
 . rw[<-h1]; simp
 . rw[<-h2]; simp
 . rw[<-h3]; simp
 . have h5:(cls n=4)↔(decide (cls n=4)=true):=by simp
   rw[h5,h4]; simp
section
variable {H:ZI}
def Qgn:ZG:=[123,125,40,41,58,59,44,43,45,42,47,37,60,62,61]
end
def QcW:ZG->Int->Int
 |[],m=>m
 |c::r,m=>QcW r (10*m+((c.toNat:Int)-48))
theorem QBo {tx:ZG}:∀ {m:Int},(∀ c∈tx,48<=c.toNat/\c.toNat<=57)->0<=m->m*10 ^ tx.length<=QcW tx m/\QcW tx m<(m+1)*10 ^ tx.length:=by
 induction tx with
 |nil=>intro m _ _; simp[QcW]; omega
 |cons c r ih =>
  intro m hd hm;have h1:=hd c (by simp);have h2:=ih (m:=10*m+((c.toNat:Int)-48)) (λx hx=>hd x (by simp[hx])) (by omega);simp only[QcW,Vh];have e:(10:Int) ^ (r.length+1)=10*10 ^ r.length:=by rw[Int.pow_succ]; omega
  have hp:(0:Int)<=10 ^ r.length:=Int.pow_nonneg (by omega);rw[e];generalize (10:Int) ^ r.length=t at h2 hp;constructor
  . have:m*(10*t)<=(10*m+((c.toNat:Int)-48))*t:=by
     have e2:m*(10*t)=(10*m)*t:=by rw[Int.mul_comm 10 m,Int.mul_assoc]
     rw[e2]; exact Zp (by omega) hp
    omega
  . have:(10*m+((c.toNat:Int)-48)+1)*t<=(m+1)*(10*t):=by
     have e2:(m+1)*(10*t)=(10*(m+1))*t:=by rw[Int.mul_comm 10 (m+1),Int.mul_assoc]
     rw[e2]; exact Zp (by omega) hp
    omega
theorem QEw {tx:ZG}:∀ {m:Int},(∀ c∈tx,48<=c.toNat/\c.toNat<=57)->0<=m->m<=QcW tx m:=by
 induction tx with
 |nil=>intro m _ _; simp[QcW]
 |cons c r ih =>
  intro m hd hm;have h1:=hd c (by simp);have h2:=ih (m:=10*m+((c.toNat:Int)-48)) (λx hx=>hd x (by simp[hx])) (by omega);simp only[QcW]; omega
theorem QCg {tx:ZG}:∀ {m:Int},(∀ c∈tx,48<=c.toNat/\c.toNat<=57)->0<=m->m<=1000000000->(QcW tx m<=1000000000->Qak tx m=(0,QcW tx m))/\(1000000000<QcW tx m->(Qak tx m).1=2):=by
 induction tx with
 |nil=>intro m _ _ h1; simp only[QcW,Qak]; exact⟨λ_=>trivial,λh=>by omega⟩
 |cons c r ih =>
  intro m hd hm h1;have h2:=hd c (by simp);have hr:∀ x∈r,48<=x.toNat/\x.toNat<=57:=λx hx=>hd x (by simp[hx]);simp only[QcW,Qak];by_cases h:1000000000<10*m+((c.toNat:Int)-48)
  . rw[Zr h];have:=QEw (m:=10*m+((c.toNat:Int)-48)) hr (by omega);exact⟨λh3=>by omega,λ_=>rfl⟩
  . rw[Zq h];exact ih hr (by omega) (by omega)
theorem QBK {tx:ZG} (hd:∀ c∈tx,48<=c.toNat/\c.toNat<=57) (h10:10<tx.length) (h0:tx.getD 0 0≠48):1000000000<QcW tx 0:=by
 match tx,h10 with
 |c::r,h10 =>
  have h1:=hd c (by simp);have hne:c.toNat≠48:=λh=>h0 (by simp; exact UInt8.toNat_inj.1 h);have h2:=(QBo (tx:=r) (m:=10*0+((c.toNat:Int)-48)) (λx hx=>hd x (by simp[hx])) (by omega)).1;simp only[QcW];have h3:(10:Int) ^ 10<=10 ^ r.length:=by
   have:(10:Nat) ^ 10<=10 ^ r.length:=Nat.pow_le_pow_right (by omega) (by simp at h10; omega)
   exact_mod_cast this
  have h4:(1:Int)*10 ^ r.length<=(10*0+((c.toNat:Int)-48))*10 ^ r.length:=Zp (by omega) (Int.pow_nonneg (by omega));have:(10:Int) ^ 10=10000000000:=by decide
  omega
section
variable {H:ZI} {l:ZG}
theorem QzZ {e:Nat} (he:e<l.length):ao l e=cls l[e].toNat:=by simp[ao,he]
end
section
variable {H:ZI} {l:ZG}
theorem Qbz {p q q':Nat} {k:Int} {t:Tok} (h:QN l p k q=.tok t q'):q'=q/\t.k=k/\t.p=p:=by
 unfold QN at h;split at h
 . cases h
 . cases h; exact⟨rfl,rfl,rfl⟩
theorem mkq {p q:Nat} {t:Tok} (h:Qw l p=.tok t q) (hp:p<l.length):p<q/\q<=l.length:=by
 unfold Qw at h;split at h
 . cases h
 . split at h
   . have:=(Qbz h).1; subst this; exact⟨Qi2 h,Qhg (by omega)⟩
   . split at h
     . have:=(Qbz h).1; subst this; exact⟨Qi2 h,Qhg (by omega)⟩
     . split at h
       . have:=(Qbz h).1; subst this; exact⟨Qi2 h,(QlV hp).2⟩
       . split at h
         . cases h
         . have:=(Qbz h).1; subst this; exact⟨Qi2 h,by omega⟩
end
structure Cx where
 ts:List Tok
 en:Nat
structure Rd where
 a:Nat
 v:Int
 e:Int
 p:Int
def rp (j:Nat):SV:=.ptr (.own j 0 0 0 0) 0
def Qm (c:Cx) (r:Rd):Int:=if h:r.a<c.ts.length then(c.ts[r.a].p:Int)else(c.en:Int)
def Qg (c:Cx) (e:Int) (r:Rd):Rd:=if r.e=0 then { r with e:=e,p:=Qm c r } else r
def QbE (c:Cx) (r:Rd) (f:Tok->Bool):Bool:=decide (r.e=0)&&(if h:r.a<c.ts.length then f c.ts[r.a]else false)
def Qd (c:Cx) (s:ZG) (r:Rd):Bool:=QbE c r λt => !decide (t.k=2)&&decide (t.tx=s)
def Qa (r:Rd):Rd:={ r with a:=r.a+1 }
def Qj (c:Cx) (s:ZG) (r:Rd):Int×Rd:=(Qm c r,if Qd c s r then Qa r else Qg c 11 r)
theorem QaP {c:Cx} {s:ZG} {r:Rd} (h:Qd c s r=true):r.a<c.ts.length:=by
 unfold Qd QbE at h;split at h
 . assumption
 . simp at h
theorem QyX {ts:List Tok} {i k:Nat} (h:i<ts.length) (hk:k<4):(ts.flatMap Tok.c)[i*4+k]? = (ts[i].c)[k]? := by
 induction ts generalizing i with
 |nil=>simp at h
 |cons t r ih =>
  cases i with
  |zero =>
   rw[VO,Vc (by simp[Tok.c]; omega)]; simp
  |succ i =>
   have e:(i+1)*4+k=t.c.length+(i*4+k):=by simp[Tok.c]; omega
   rw[VO,e,Vk (by omega)];simp only[List.getElem_cons_succ,Zo];exact ih (by simpa using h)
theorem QxQ {H:ZI} {j:Nat} (hj:j<H.length) (cs:ZJ) (t:ZM):Qo (H.set j ⟨cs,t,0,true⟩) j 0=cs:=Q7 (o:=⟨cs,t,0,true⟩) (by simp[hj]) rfl
def QaB:ZF:=[[103,97,109,101],[112,108,97,121,101,114,115],[118,97,114],[100,101,97,108],[105,110],[119,101,105,103,104,116],[115,101,101,110],[98,121],[97,108,108],[116,117,114,110],[97,99,116,105,111,110],[119,104,101,110],[104,105,100,100,101,110],[103,111,116,111],[101,110,100],[112,97,121],[111,114],[97,110,100],[110,111,116],[109,105,110],[109,97,120],[105,102]]
def QV (c:Cx) (r:Rd):Bool:=QbE c r λt=>decide (t.k=1) && !decide (t.tx∈QaB)
def QX (c:Cx) (r:Rd):ZG×Rd:=if QV c r then((c.ts.getD r.a ⟨0,[],0,0⟩).tx,Qa r)else([],Qg c 11 r)
def Qbb (c:Cx) (r:Rd):Bool:=QbE c r λt=>decide (t.k=2)
def nmR (c:Cx) (r:Rd):Int×Rd:=if Qbb c r then((c.ts.getD r.a ⟨0,[],0,0⟩).n,Qa r)else(0,Qg c 11 r)
def av (r:Rd):Rd:={ r with v:=IntKind.i64.wrap (r.v+1) }
def dnR (r:Rd):Rd:={ r with v:=IntKind.i64.wrap (r.v-1) }
def QA (c:Cx) (s:ZG) (r:Rd):Int×Rd:=Qj c s (av (if Qd c s r=true/\r.v=40 then Qg c 5 r else r))
def QdM (c:Cx) (r:Rd):Bool:=Qbb c r||QV c r||Qd c [110,111,116] r||Qd c [45] r||Qd c [40] r||Qd c [109,105,110] r||Qd c [109,97,120] r||Qd c [105,102] r
theorem QcV {c:Cx} {r:Rd} {f:Tok->Bool} (h:QbE c r f=true):r.e=0/\∃ h:r.a<c.ts.length,f c.ts[r.a]=true:=by
 unfold QbE at h;split at h
 . rename_i h2; simp at h; exact⟨h.1,h2,h.2⟩
 . simp at h
inductive Ex where
 |mk (op n:Int) (nm:ZG) (l:List Ex) (p:Int)
mutual
def Ex.c:Ex->ZJ
 |.mk op n nm l p=>[V op,V n,st (B nm),.slc (Ex.cL l) l.length,V p]
def Ex.cL:List Ex->ZJ
 |[]=>[]
 |e::r=>e.c++Ex.cL r
end
def Ex.v (e:Ex):SV:=.agg e.c
def zE:Ex:=.mk 0 0 [] [] 0
@[simp] theorem Ex.c_len (e:Ex):e.c.length=5:=by cases e; rfl
theorem QtD:∀ l:List Ex,Ex.cL l=rws Ex.c l
 |[]=>by simp[Ex.cL,rws]
 |e::r=>by rw[Ex.cL,QtD r,rws]
mutual
theorem Ex.und (n:Nat):∀ e:Ex,SV.underL n e.c=true
 |.mk op k nm l p=>by simp[Ex.c,SV.underL,SV.under,Ex.undL n l]
theorem Ex.undL (n:Nat):∀ l:List Ex,SV.underL n (Ex.cL l)=true
 |[]=>by simp[Ex.cL,SV.underL]
 |e::r=>by rw[Ex.cL,SV.underL_append,Ex.und n e,Ex.undL n r]; rfl
end
@[simp] theorem Ex.c_take (e:Ex):List.take 5 e.c=e.c:=VD (by simp)
@[simp] theorem Ex.c_drop10 (e:Ex) (l:ZJ):List.drop 10 (e.c++l)=List.drop 5 l:=by
 rw[show 10=e.c.length+5 by simp,YW]; simp
@[simp] theorem Ex.c_drop5' (e:Ex):List.drop 5 e.c=[]:=VZ (by simp)
theorem Ex.ok (e:Ex):QF e.c:=by
 cases e
 intro s hs;simp[Ex.c]at hs;rcases hs with rfl|rfl|rfl|rfl|rfl<;>rfl
@[simp] theorem Ex.okT (e:Ex):QF e.c=True:=Zz e.ok
@[simp] theorem Ex.fzm (n:Nat) (ks:List Nat) (L:ZI) (d:Nat) (e:Ex):e.c.map (SV.fz n ks L (d+1))=e.c:=QcY _ _ _ _ (Ex.und _ e)
structure Gd (c:Cx) (d:Nat) (r:Rd):Prop where
 a:r.a<=c.ts.length
 v:r.e≠0\/r.v+d=40
def Kp {α:Type} (c:Cx) (d:Nat) (F:Rd->α×Rd):Prop:=∀ r,Gd c d r->Gd c d (F r).2/\r.a<=(F r).2.a
def QaH (c:Cx) (aa:List (ZG×Int)) (r:Rd):Option Int:=(aa.find? λo=>Qd c o.1 r).map (·.2)
def Qa4 (c:Cx) (aa:List (ZG×Int)) (f:Rd->Ex×Rd):Nat->Ex->Rd->Ex×Rd
 |0,e,r=>(e,r)
 |n+1,e,r=>match QaH c aa r with
  |some op=>Qa4 c aa f n (.mk op 0 [] [e,(f (Qa r)).1] (Qm c r)) (f (Qa r)).2
  |none=>(e,r)
def Q0 (c:Cx) (aa:List (ZG×Int)) (f:Rd->Ex×Rd) (r:Rd):Ex×Rd:=Qa4 c aa f c.ts.length (f r).1 (f r).2
def orO:List (ZG×Int):=[([111,114],17)]
def QaU:List (ZG×Int):=[([97,110,100],16)]
def QaJ:List (ZG×Int):=[([61,61],10),([33,61],11),([60],12),([60,61],13),([62],14),([62,61],15)]
def QaZ:List (ZG×Int):=[([43],8),([45],9)]
def QaV:List (ZG×Int):=[([42],5),([47],6),([37],7)]
def Qaz (c:Cx) (f:Rd->Ex×Rd) (r:Rd):Ex×Rd:=match QaH c QaJ (f r).2 with
 |some op=>(.mk op 0 [] [(f r).1,(f (Qa (f r).2)).1] (Qm c (f r).2),(f (Qa (f r).2)).2)
 |none=>f r
theorem QhU {c:Cx} {s:ZG} {r:Rd} (h:Qd c s r=true):r.e=0/\∃ h:r.a<c.ts.length,c.ts[r.a].k≠2/\c.ts[r.a].tx=s:=by
 obtain⟨h1,h2,h3⟩:=QcV h;simp at h3;exact⟨h1,h2,h3.1,h3.2⟩
theorem QdY {c:Cx} {aa:List (ZG×Int)} {r:Rd} {op:Int} (h:QaH c aa r=some op):r.e=0/\r.a<c.ts.length:=by
 unfold QaH at h;rw[V1]at h;obtain⟨o,h1,_⟩:=h;have:=List.find?_some h1;obtain⟨h2,h3,_⟩:=QhU this;exact⟨h2,h3⟩
theorem Gd.next {c:Cx} {d:Nat} {r:Rd} (h:Gd c d r) (hl:r.a<c.ts.length):Gd c d (Qa r):=⟨hl,h.v⟩
theorem QuY {c:Cx} {aa:List (ZG×Int)} {f:Rd->Ex×Rd} {d:Nat} (hf:Kp c d f):∀ (n:Nat) (e:Ex) (r:Rd),Gd c d r->Gd c d (Qa4 c aa f n e r).2/\r.a<=(Qa4 c aa f n e r).2.a
 |0,e,r,h=>⟨h,Vb _⟩
 |n+1,e,r,h=>by
  rw[Qa4];split
  . rename_i op ho;obtain⟨_,hl⟩:=QdY ho;obtain⟨h1,h2⟩:=hf _ (h.next hl)
    obtain⟨h3,h4⟩:=QuY hf n (.mk op 0 [] [e,(f (Qa r)).1] (Qm c r)) _ h1;exact⟨h3,by have:r.a+1<=_:=h2; omega⟩
  . exact⟨h,Vb _⟩
theorem QcS {c:Cx} {aa:List (ZG×Int)} {f:Rd->Ex×Rd} {d:Nat} (hf:Kp c d f):Kp c d (Q0 c aa f):=by
 intro r h;obtain⟨h1,h2⟩:=hf r h;obtain⟨h3,h4⟩:=QuY (aa:=aa) hf c.ts.length (f r).1 _ h1;exact⟨h3,Vf h2 h4⟩
theorem Qmy {c:Cx} {f:Rd->Ex×Rd} {d:Nat} (hf:Kp c d f):Kp c d (Qaz c f):=by
 intro r h;obtain⟨h1,h2⟩:=hf r h;unfold Qaz;split
 . rename_i op ho;obtain⟨_,hl⟩:=QdY ho;obtain⟨h3,h4⟩:=hf _ (h1.next hl)
   exact⟨h3,by have:(f r).2.a+1<=_:=h4; simp only; omega⟩
 . exact⟨h1,h2⟩
section
variable {H:ZI} {c:Cx} {r:Rd} {j:Nat}
def zO:AO:=⟨[V 0,V 0,st (B []),.val (.slice none 0 0),V 0],25,0,true⟩
def eO (e:Ex):AO:=⟨e.c,25,0,true⟩
end
section
variable {H:ZI} {c:Cx} {r:Rd} {j:Nat}
theorem ocL (hj:j<H.length) (cs:ZJ) (t:ZM) (L:ZI):Qo (H.set j ⟨cs,t,0,true⟩++L) j 0=cs:=by
 have:(H.set j ⟨cs,t,0,true⟩++L)[j]? = some ⟨cs,t,0,true⟩:=by rw[Vc (by simpa using hj)]; simp[hj]
 exact Q7 this rfl
theorem soL (hj:j<H.length) (o:AO) (L:ZI) (f:AO->AO):Ab.setObj (H.set j o++L) j f=H.set j (f o)++L:=by
 rw[Qcn (o:=o) (by rw[Vc (by simpa using hj)]; simp[hj]),Vn _ _ (by simpa using hj),VF]
end
def Qal (c:Cx) (cmp ntP:Rd->Ex×Rd) (r:Rd):Ex×Rd :=
 if Qd c [110,111,116] r=true then
  if(QA c [110,111,116] r).2.e≠0 then(zE,(QA c [110,111,116] r).2)
  else(.mk 4 0 [] [(ntP (QA c [110,111,116] r).2).1] (QA c [110,111,116] r).1,dnR (ntP (QA c [110,111,116] r).2).2)
 else cmp r
def QP (c:Cx) (orP:Rd->Ex×Rd):Nat->List Ex->Rd->Option (List Ex)×Rd
 |0,l,r=>(some l,r)
 |n+1,l,r=>if(Qj c [44] r).2.e≠0 then(none,(Qj c [44] r).2)else QP c orP n (l++[(orP (Qj c [44] r).2).1]) (orP (Qj c [44] r).2).2
def Qcm (c:Cx) (orP:Rd->Ex×Rd) (s:ZG) (op:Int) (m:Nat) (p:Int) (r:Rd):Ex×Rd :=
 let r2:=(QA c [40] (Qj c s r).2).2
 if r2.e≠0 then(zE,r2)else
 match QP c orP m [(orP r2).1] (orP r2).2 with
 | (none,r3)=>(zE,r3)
 | (some l,r3)=>(.mk op 0 [] l p,dnR (Qj c [41] r3).2)
def Qan:List (ZG×Int×Nat):=[([109,105,110],18,1),([109,97,120],19,1),([105,102],20,2)]
def QC (c:Cx) (orP facP:Rd->Ex×Rd) (r:Rd):Ex×Rd :=
 if r.e≠0 then(zE,r)
 else if QV c r=true then(.mk 2 0 (QX c r).1 [] (Qm c r),(QX c r).2)
 else if Qd c [45] r=true then
  if(QA c [45] r).2.e≠0 then(zE,(QA c [45] r).2)
  else(.mk 3 0 [] [(facP (QA c [45] r).2).1] (Qm c r),dnR (facP (QA c [45] r).2).2)
 else if Qd c [40] r=true then
  if(QA c [40] r).2.e≠0 then(zE,(QA c [40] r).2)
  else((orP (QA c [40] r).2).1,dnR (Qj c [41] (orP (QA c [40] r).2).2).2)
 else match Qan.find? (λw=>Qd c w.1 r)with
  |some w=>Qcm c orP w.1 w.2.1 w.2.2 (Qm c r) r
  |none=>(.mk 1 (nmR c r).1 [] [] (Qm c r),(nmR c r).2)
structure Lv where
 fac:Rd->Ex×Rd
 nt:Rd->Ex×Rd
def QaT (c:Cx) (L:Lv):Rd->Ex×Rd:=Q0 c orO (Q0 c QaU L.nt)
def Qhw (c:Cx) (fac:Rd->Ex×Rd):Rd->Ex×Rd:=Qaz c (Q0 c QaZ (Q0 c QaV fac))
def lvS (c:Cx) (orP facP ntP:Rd->Ex×Rd):Lv:=⟨QC c orP facP,Qal c (Qhw c (QC c orP facP)) ntP⟩
def lv (c:Cx):Nat->Lv
 |0=>lvS c (λr=>(zE,r)) (λr=>(zE,r)) (λr=>(zE,r))
 |d+1=>lvS c (QaT c (lv c d)) (lv c d).fac (lv c d).nt
theorem QfR {c:Cx} {d:Nat} {r:Rd} {e:Int} (he:e≠0) (h:Gd c d r):Gd c d (Qg c e r)/\(Qg c e r).a=r.a/\(Qg c e r).e≠0:=by
 unfold Qg;split
 . exact⟨⟨h.a,.inl he⟩,rfl,he⟩
 . rename_i h2; exact⟨h,rfl,h2⟩
theorem QcI {c:Cx} {d:Nat} (s:ZG):Kp c d (Qj c s):=by
 intro r h;unfold Qj;split
 . rename_i hp;exact⟨h.next (QaP hp),Nat.le_succ _⟩
 . obtain⟨h1,h2,_⟩:=QfR (e:=11) (by decide) h;exact⟨h1,V0 h2.symm⟩
theorem QcC {c:Cx} {d:Nat}:Kp c d (QX c):=by
 intro r h;unfold QX;split
 . rename_i hp;exact⟨h.next (QcV hp).2.1,Nat.le_succ _⟩
 . obtain⟨h1,h2,_⟩:=QfR (e:=11) (by decide) h;exact⟨h1,V0 h2.symm⟩
theorem Qcp {c:Cx} {d:Nat}:Kp c d (nmR c):=by
 intro r h;unfold nmR;split
 . rename_i hp;exact⟨h.next (QcV hp).2.1,Nat.le_succ _⟩
 . obtain⟨h1,h2,_⟩:=QfR (e:=11) (by decide) h;exact⟨h1,V0 h2.symm⟩
theorem QfU {c:Cx} {d:Nat} (hd:d<=40) {s:ZG} {r:Rd} (h:Gd c d r) :
 (QA c s r).2.a<=c.ts.length/\r.a<=(QA c s r).2.a/\((QA c s r).2.e=0->∃ d',d=d'+1/\Gd c d' (QA c s r).2):=by
 unfold QA;by_cases hp:Qd c s r=true/\r.v=40
 . rw[Zr hp];obtain⟨h1,h2,h3⟩:=QfR (e:=5) (by decide) h;have hb:Gd c d (av (Qg c 5 r)):=⟨h1.a,.inl h3⟩;obtain⟨k1,k2⟩:=QcI s _ hb;refine⟨k1.a,by rw[<-h2]; exact k2,λhe => ?_⟩;exfalso;have:Qd c s (av (Qg c 5 r))=false:=by
    rw[<-Vm]; intro h4;exact h3 (QhU h4).1
   unfold Qj at he;rw[this]at he;simp only[Vz,Zx]at he;unfold Qg at he;rw[Zq (by exact h3)]at he;exact h3 he
 . rw[Zq hp];have hb:Gd c d (av r)\/True:=.inr trivial;by_cases hpk:Qd c s r=true
   . have hv:r.v≠40:=λh=>hp ⟨hpk,h⟩;obtain⟨he0,hlt,_⟩:=QhU hpk;have hpu:Qd c s (av r)=true:=hpk;have ht:Qj c s (av r)=(Qm c (av r),Qa (av r)):=by unfold Qj; rw[Zr hpu]
     rw[ht];have hv2:=h.v.resolve_left (λh=>h he0);refine⟨hlt,Nat.le_succ _,λ_=>⟨d-1,by omega,hlt,.inr ?_⟩⟩;have:IntKind.i64.wrap (r.v+1)=r.v+1:=Qam (by omega) (by omega);simp only[Qa,av,this];omega
   . have hpu:Qd c s (av r)=false:=by rw[<-Vm]; exact hpk
     have ht:Qj c s (av r)=(Qm c (av r),Qg c 11 (av r)):=by unfold Qj; rw[hpu]; rfl
     rw[ht];have hf:(Qg c 11 (av r)).a=r.a/\(Qg c 11 (av r)).e≠0:=by
      unfold Qg;split
      . exact⟨rfl,show(11:Int)≠0 by decide⟩
      . rename_i h2; exact⟨rfl,h2⟩
     exact⟨by rw[hf.1]; exact h.a,by rw[hf.1]; exact Vb _,λhe=>absurd he hf.2⟩
theorem Gd.dn {c:Cx} {d:Nat} (hd:d+1<=40) {r:Rd} (h:Gd c d r):Gd c (d+1) (dnR r):=by
 refine⟨h.a,?_⟩;rcases h.v with h1|h1
 . exact .inl h1
 . right;have:IntKind.i64.wrap (r.v-1)=r.v-1:=Qam (by omega) (by omega);simp only[dnR,this]; omega
theorem QnH {c:Cx} {d:Nat} (hd:d<=40) {cmp ntP:Rd->Ex×Rd} (h1:Kp c d cmp) (h2:∀ d',d=d'+1->Kp c d' ntP):Kp c d (Qal c cmp ntP):=by
 intro r h;unfold Qal;split
 . obtain⟨k1,k2,k3⟩:=QfU hd (s:=[110,111,116]) h;split
   . rename_i he;exact⟨⟨k1,.inl he⟩,k2⟩
   . rename_i he;obtain⟨d',rfl,hg⟩:=k3 (by simpa using he);obtain⟨k4,k5⟩:=h2 d' rfl _ hg;exact⟨k4.dn hd,Vf k2 k5⟩
 . exact h1 r h
theorem Qp5 {c:Cx} {d:Nat} {orP:Rd->Ex×Rd} (hk:Kp c d orP):∀ (n:Nat) (l:List Ex) (r:Rd),Gd c d r->Gd c d (QP c orP n l r).2/\r.a<=(QP c orP n l r).2.a/\((QP c orP n l r).1=none->(QP c orP n l r).2.e≠0)
 |0,l,r,h=>⟨h,Vb _,λh=>by cases h⟩
 |n+1,l,r,h=>by
  rw[QP];obtain⟨k1,k2⟩:=QcI [44] r h;split
  . rename_i he;exact⟨k1,k2,λ_=>he⟩
  . obtain⟨k3,k4⟩:=hk _ k1;obtain⟨k5,k6,k7⟩:=Qp5 hk n (l++[(orP (Qj c [44] r).2).1]) _ k3;exact⟨k5,Vf k2 (Vf k4 k6),k7⟩
theorem QDg {c:Cx} {d:Nat} (hd:d<=40) {orP:Rd->Ex×Rd} (hk:∀ d',d=d'+1->Kp c d' orP) (s:ZG) (op:Int) (m:Nat) (p:Int):Kp c d (Qcm c orP s op m p):=by
 intro r h;obtain⟨k1,k2⟩:=QcI s r h;obtain⟨k3,k4,k5⟩:=QfU hd (s:=[40]) k1;unfold Qcm;dsimp only;split
 . rename_i he;exact⟨⟨k3,.inl he⟩,Vf k2 k4⟩
 . rename_i he;obtain⟨d',rfl,hg⟩:=k5 (by simpa using he);obtain⟨k6,k7⟩:=hk d' rfl _ hg;obtain⟨k8,k9,k10⟩:=Qp5 (hk d' rfl) m [(orP (QA c [40] (Qj c s r).2).2).1] _ k6;split
   . rename_i r3 hr;rw[hr]at k8 k9 k10;exact⟨⟨k8.a,.inl (k10 rfl)⟩,Vf k2 (Vf k4 (Vf k7 k9))⟩
   . rename_i l r3 hr;rw[hr]at k8 k9 k10;obtain⟨k11,k12⟩:=QcI [41] r3 k8;exact⟨k11.dn hd,Vf k2 (Vf k4 (Vf k7 (Vf k9 k12)))⟩
theorem Qol {c:Cx} {d:Nat} (hd:d<=40) {orP facP:Rd->Ex×Rd} (h1:∀ d',d=d'+1->Kp c d' orP) (h2:∀ d',d=d'+1->Kp c d' facP):Kp c d (QC c orP facP):=by
 intro r h;unfold QC;split
 . exact⟨h,Vb _⟩
 split
 . exact QcC r h
 split
 . obtain⟨k1,k2,k3⟩:=QfU hd (s:=[45]) h;split
   . rename_i he;exact⟨⟨k1,.inl he⟩,k2⟩
   . rename_i he;obtain⟨d',rfl,hg⟩:=k3 (by simpa using he);obtain⟨k4,k5⟩:=h2 d' rfl _ hg;exact⟨k4.dn hd,Vf k2 k5⟩
 split
 . obtain⟨k1,k2,k3⟩:=QfU hd (s:=[40]) h;split
   . rename_i he;exact⟨⟨k1,.inl he⟩,k2⟩
   . rename_i he;obtain⟨d',rfl,hg⟩:=k3 (by simpa using he);obtain⟨k4,k5⟩:=h1 d' rfl _ hg;obtain⟨k6,k7⟩:=QcI [41] _ k4;exact⟨k6.dn hd,Vf k2 (Vf k5 k7)⟩
 split
 . exact QDg hd h1 _ _ _ _ r h
 . exact Qcp r h
theorem QfP (c:Cx):∀ d:Nat,d<=40->Kp c d (lv c d).fac/\Kp c d (lv c d).nt/\Kp c d (QaT c (lv c d))
 |0,hd=>by
  have h1:Kp c 0 (lv c 0).fac:=Qol hd (λd' h=>by omega) (λd' h=>by omega);have h2:Kp c 0 (lv c 0).nt:=QnH hd (Qmy (QcS (QcS h1))) (λd' h=>by omega);exact⟨h1,h2,QcS (QcS h2)⟩
 |d+1,hd=>by
  obtain⟨p1,p2,p3⟩:=QfP c d (by omega);have h1:Kp c (d+1) (lv c (d+1)).fac:=Qol hd (λd' h=>by cases h; exact p3) (λd' h=>by cases h; exact p1);have h2:Kp c (d+1) (lv c (d+1)).nt:=QnH hd (Qmy (QcS (QcS h1))) (λd' h=>by cases h; exact p2);exact⟨h1,h2,QcS (QcS h2)⟩
section
variable {H:ZI} {c:Cx} {r:Rd} {j:Nat}
theorem Qux (op n:Int) (nm:ZG) (p:Int):SV.le (.agg [V op,V n,st (B nm),.val (.slice none 0 0),V p]) (Ex.mk op n nm [] p).v:=by
 simp only[Ex.v,Ex.c,Ex.cL,VH];exact QeW (leL.cons (SV.le.refl _) (leL.cons (SV.le.refl _) (leL.cons (SV.le.refl _) (leL.cons QdA (leL.cons (SV.le.refl _) leL.nil)))))
theorem Qs8 {o:AO} (Z:closed (H.set j o)) (op n:Int) (nm:ZG) (p:Int) (L:ZI):Cv H.length (.agg [V op,V n,st (B nm),.val (.slice none 0 0),V p]) (H.set j o++L) (Ex.mk op n nm [] p).v (H.set j o) :=
 Cv.le (Qq (r1:=.agg [V op,V n,st (B nm),.val (.slice none 0 0),V p]) (r:=.agg [V op,V n,st (B nm),.val (.slice none 0 0),V p]) (n0:=H.length) 3 Z (by simp) (by simp)) (Qux op n nm p)
end
section
variable {H:ZI} {c:Cx} {r:Rd} {j:Nat}
theorem Qeo:∀ a:List Ex,(Ex.cL a).length=a.length*5
 |[]=>rfl
 |x::a=>by rw[Ex.cL,Vj,Qeo a]; simp; omega
end
section
variable {H:ZI} {c:Cx} {r:Rd} {j:Nat}
@[simp] theorem QGs (n:Nat) (ks:List Nat) (L:ZI) (d:Nat) (l:List Ex):(Ex.cL l).map (SV.fz n ks L (d+1))=Ex.cL l:=QcY _ _ _ _ (Ex.undL _ l)
end
def au (c:Cx):Rd->Ex×Rd:=QaT c (lv c 40)
def Qeb (c:Cx):Ex×Int×Int :=
 let x:=au c ⟨0,0,0,0⟩
 let r:=if x.2.a<c.ts.length then Qg c 11 x.2 else x.2
 if r.e≠0 then(zE,r.e,r.p)else(x.1,0,0)
def Qz (l:ZG):Ex×Int×Int :=
 if(QB l).2.1≠0 then(zE,(QB l).2)else Qeb ⟨(QB l).1,l.length⟩
theorem QCm (l:List Ev):(Q4 l).length<=l.length:=by
 induction l with
 |nil=>simp[Q4]
 |cons x r ih=>cases x<;>simp[Q4]<;>omega
theorem QrK (l:ZG):∀ (n p:Nat),(evs l n p).length<=n
 |0,p=>by simp[evs]
 |n+1,p=>by
  simp only[evs];have:=QrK l n;split
  . split<;>simp<;>first|omega|(have:=this ‹_›; omega)|skip
  . simp
theorem QnS (l:ZG):(QB l).1.length<=20000:=by
 unfold QB;split
 . simp
 . rename_i h;split
   . refine Vf (QCm _) (Vf (QrK l l.length 0) (by omega))
   . simp
def mpK (aa:List (ZG×Int)):ZK:=aa.map λo=>.string (B o.1)
def mpV (aa:List (ZG×Int)):ZJ:=aa.map λo=>V o.2
def mpS (aa:List (ZG×Int)):SV:=.mpf (mpK aa) (mpV aa)
def Qmq:ZJ:=[mpS orO,mpS QaU,mpS QaJ,mpS QaZ,mpS QaV]
def pdC (c:Cx) (a:Nat) (v:Int):ZJ:=[Qbl c.ts,V a,V c.en,mpS orO,mpS QaU,mpS QaJ,mpS QaZ,mpS QaV,V v]
def ae (c:Cx) (r:Rd):AO:=⟨pdC c r.a r.v,127,0,true⟩
def QZ (e p:Int):SV:=.ifc 28 (QG e p)
def zTk:Tok:=⟨0,[],0,0⟩
def tkR (c:Cx) (r:Rd):Tok:=if h:r.a<c.ts.length then c.ts[r.a]else zTk
theorem QC3 {ts:List Tok} {i:Nat} (h:i<ts.length):List.take 4 (List.drop (i*4) (ts.flatMap Tok.c))=(ts[i]'h).c:=by
 induction ts generalizing i with
 |nil=>simp at h
 |cons t r ih =>
  rw[VO]
  cases i with
  |zero=>rw[Yn,Yr,YX (by simp[Tok.c])]; rfl
  |succ i =>
   have e:(i+1)*4=t.c.length+i*4:=by simp[Tok.c]; omega
   rw[e,YW,List.drop_eq_nil_of_le (by omega),VG,Zo];exact ih (by simpa using h)
theorem Tok.c_len (t:Tok):t.c.length=4:=rfl
theorem Tok.cOk (t:Tok):QF t.c:=by
 intro s hs;simp[Tok.c]at hs;rcases hs with rfl|rfl|rfl|rfl<;>rfl
structure Qu (H:ZI) (js:List Nat) (H':ZI):Prop where
 len:H.length<=H'.length
 at_:∀ i,i<H.length->i∉js->H'[i]? = H[i]?
theorem Qu.refl (H:ZI) (js:List Nat):Qu H js H:=⟨Vb _,λ_ _ _=>rfl⟩
theorem Qu.set {H:ZI} {js:List Nat} {j:Nat} (hj:j∈js) (o:AO):Qu H js (H.set j o):=by
 refine⟨by simp,λi _ hi => ?_⟩;rw[Vg];rintro rfl; exact hi hj
theorem Qu.trans {H H' H'':ZI} {js:List Nat} (h:Qu H js H') (h':Qu H' js H''):Qu H js H'' :=
 ⟨Vf h.len h'.len,λi hi hj=>(h'.at_ i (YO hi h.len) hj).trans (h.at_ i hi hj)⟩
section
variable {H:ZI} {c:Cx} {r:Rd} {j:Nat}
theorem QgH (ho:H[j]? = some (ae c r)):Ok Tryz.prog 91 [rp j] H (.ret (V (Qm c r))) H:=by
 have hj:=Qk ho;have e1:Qo H j 0=(ae c r).cells:=Q7 (o:=ae c r) ho rfl;refine Qt hm Tryz.func91 c91 (by simp[rp]) λZ => ?_;unfold Qm;by_cases h:r.a<c.ts.length
 . have k3:=QyX (k:=3) h (by omega);simp -implicitDefEqProofs[i91,r91,rp,e1,ae,pdC,h,Qbl,k3,Tok.c];exact⟨by simp[Qke]; omega,Qi⟩
 . simp -implicitDefEqProofs[i91,r91,rp,e1,ae,pdC,h,Qbl];exact Qi
theorem Qdk (ho:H[j]? = some (ae c r)) (e:Int):Ok Tryz.prog 79 [rp j,V e] H (.pan (QZ e (Qm c r))) H:=by
 have hj:=Qk ho;have h91:=QgH ho;refine Qt hm Tryz.func79 c79 (by simp[rp]) λZ => ?_;simp -implicitDefEqProofs[i79,r79];refine Qb h91 ?_;simp -implicitDefEqProofs[QZ,QG];exact Qi
theorem Qex (ho:H[j]? = some (ae c r)):Ok Tryz.prog 139 [rp j] H (.ret (tkR c r).v) H:=by
 have hj:=Qk ho;have e1:Qo H j 0=(ae c r).cells:=Q7 (o:=ae c r) ho rfl;have e1L:∀ L,Qo (H++L) j 0=(ae c r).cells:=λL=>by rw[Qma L hj]; exact e1
 refine Qt hm Tryz.func139 c139 (by simp[rp]) λZ => ?_;unfold tkR;by_cases h:r.a<c.ts.length
 . have kt:=QC3 h;have hm4:min 4 (c.ts.length*4-r.a*4)=4:=by omega
   have ht:List.take 4 (c.ts[r.a]'h).c=(c.ts[r.a]'h).c:=rfl;simp -implicitDefEqProofs[Qo1,QnK,rp,e1L,ae,pdC,h,Qbl,kt,Tok.c_len,Qke,ht];refine⟨by omega,Tok.cOk _,?_⟩;exact Qq 2 Z rfl rfl
 . simp -implicitDefEqProofs[Qo1,QnK,rp,e1L,ae,pdC,h,Qbl];exact Qq 2 Z rfl rfl
end
end Go.Proofs.YtmkdpmfhlfhjkaaGreatDoor
namespace Go.Proofs.YtmkdpmfhlfhjkaaGreatDoor
open Go.Ab
def wds (l:ZF):ZJ:=l.map λs=>st (B s)
@[simp] theorem Qq3 (l:ZF):(wds l).length=l.length:=by simp[wds]
structure IsS (H:ZI) (x:SV) (l:ZF):Prop where
 vd:x.vd=true
 ug:x.ug=x
 sl:x.isSl=true
 cell:x.isCell=true
 sz:x.szIs 1=true
 len:x.slen=l.length
 und:x.under H.length=true
 row:(x.row H).take l.length=wds l
 flat:x.flat=[x]
namespace IsS
variable {H:ZI} {x:SV} {l:ZF}
theorem app (h:IsS H x l) (L:ZI):IsS (H++L) x l :=
 ⟨h.vd,h.ug,h.sl,h.cell,h.sz,h.len,SV.under_mono (by simp) x h.und,by rw[QBj L h.und]; exact h.row,h.flat⟩
theorem slc (H:ZI) (l:ZF):IsS H (.slc (wds l) l.length) l :=
 ⟨rfl,rfl,rfl,rfl,rfl,rfl,by simp[SV.under,wds,SV.underL_iff],by simp[SV.row,<- Qq3],rfl⟩
theorem rowlen (h:IsS H x l):l.length<=(x.row H).length:=by
 have:=Zt List.length h.row;simp at this; omega
theorem ld (h:IsS H x l) {k:Nat} (hk:k<l.length):((x.row H).drop k).headD .any=st (B (l[k]'hk)):=by
 have h2:((x.row H).take l.length)[k]? = (wds l)[k]? := by rw[h.row]
 rw[YP hk]at h2;rw[Zc,List.head?_drop,h2];simp[wds,hk]
theorem okA (h:IsS H x l) (L:ZI) {k:Nat} (hk:k<l.length):Qf4 (H++L) (.ptr x k) 1:=by
 have:=(h.app L).rowlen;simp only[Qf4,Qk6,Yq]; omega
theorem vA (h:IsS H x l) (L:ZI) {k:Nat} (hk:k<l.length):ldv (H++L) (.ptr x k)=st (B (l[k]'hk)):=by
 have:=(h.app L).ld hk;simp only[ldv,Qk6,this]
theorem own1 {H L:ZI} {T:ZM} {l:ZF} {k n ver:Nat} (h:L[k]? = some ⟨wds l,T,ver,true⟩) (hn:n=l.length):IsS (H++L) (.own (H.length+k) 0 n 1 ver) l:=by
 subst hn;refine⟨rfl,rfl,rfl,rfl,rfl,rfl,?_,?_,rfl⟩
 . have:k<L.length:=Qk h;simp; omega
 . simp only[SV.row,QgN,Yr];unfold Qo;rw[h];simp[<-Qq3]
end IsS
end Go.Proofs.YtmkdpmfhlfhjkaaGreatDoor
namespace Go.Proofs.YtmkdpmfhlfhjkaaGreatDoor
open Go.Ab
section
variable {H:ZI} {c:Cx} {r:Rd} {j:Nat}
theorem QDr (n:Nat) (aa:List (ZG×Int)):(mpS aa).under n=true:=by
 simp[mpS,SV.under,SV.underL_iff,mpV];rintro _ _ _ _ rfl;rfl
theorem Qui (n:Nat) (c:Cx) (a:Nat) (v:Int):SV.underL n (pdC c a v)=true:=by
 simp[pdC,SV.underL,SV.under,Qbl,QmO,QDr]
theorem QbQ {a:Nat} {v:Int} (h:closed H):closed (H.set j ⟨pdC c a v,127,0,true⟩):=by
 have:=Qfw h j (o:=⟨pdC c a v,127,0,true⟩) (Qui _ _ _ _);simpa using this
theorem Qsl {G:ZI} {q:Nat} {t:Tok} (hq:G[q]? = some ⟨t.c,52,0,true⟩) {x:SV} {l:ZF} (hx:IsS G x l) (hl:l.length<4611686018427387904) {N:Nat} {K:ZH}
 (hyes:t.tx∈l->∀ U,U.get 4=bl true->K .ret U G) (hno:t.tx∉l->∀ U,K (.exit 0) U G) :
 ∀ (m i:Nat) (U:Env),i+m=l.length->t.tx∉l.take i->U.get 5=rp q->U.get 10=x->U.get 11=V l.length->U.get 12=V i->LI Tryz.prog N Qf QlG U G K:=by
 have e1:Qo G q 0=t.c:=Q7 (o:=⟨t.c,52,0,true⟩) hq rfl;intro m
 induction m with
 |zero =>
  intro i U hi hn h5 h10 h11 h12;refine Qp hm QlG.eq_1 ?_;have e:i=l.length:=by omega
  subst e;rw[VI]at hn;simp[h5,h10,h11,h12];exact hno hn _
 |succ m ih =>
  intro i U hi hn h5 h10 h11 h12;refine Qp hm QlG.eq_1 ?_;have hlt:i<l.length:=by omega
  have ax:(i:Int)<l.length:=by omega
  have hv:=hx.vA [] hlt;have ho:=hx.okA [] hlt;simp only[VE]at hv ho;by_cases hs:t.tx=l[i]
  . simp[h5,h10,h11,h12,ax,hx.vd,hx.ug,hx.sl,hx.len,hv,ho,rp,e1,Tok.c,hs];exact hyes (hs ▸ Vp hlt) _ (by simp)
  . simp[h5,h10,h11,h12,ax,hx.vd,hx.ug,hx.sl,hx.len,hv,ho,rp,e1,Tok.c,hs];refine ih (i+1) _ (by omega) ?_ ?_ ?_ ?_ ?_
    . rw[YM hlt,Vt];rintro(h|h)
      . exact hn h
      . exact hs (VX.1 h)
    all_goals simp[Qaj (show i<9223372036854775807 by omega),rp]
theorem Qf9 (ho:H[j]? = some (ae c r)) {x:SV} {l:ZF} (hx:IsS H x l) (hl:l.length<4611686018427387904):Ok Tryz.prog 93 [rp j,x] H (.ret (bl (decide ((tkR c r).tx∈l)))) H:=by
 have hj:=Qk ho;have h139:=Qex ho;generalize tkR c r=t at h139 ⊢;refine Qt hm Tryz.func93 c93 (by simp[rp]) λZ => ?_;simp[i93,r93];refine Qb h139 ?_;simp[Tok.v,Tok.c,hx.vd,hx.ug,hx.sl,hx.len];by_cases ht:t.tx∈l
 . refine Qsl (G:=H++[⟨t.c,52,0,true⟩]) (q:=H.length) (t:=t) (by simp) (hx.app _) hl (λ_ U h4 => ?_) (λh=>absurd ht h) l.length 0 _ (by omega) (by simp) ?_ ?_ ?_ ?_
   . simp[h4,ht];exact Qq 2 Z rfl rfl
   all_goals simp[rp]
 . refine Qsl (G:=H++[⟨t.c,52,0,true⟩]) (q:=H.length) (t:=t) (by simp) (hx.app _) hl (λh=>absurd h ht) (λ_ U => ?_) l.length 0 _ (by omega) (by simp) ?_ ?_ ?_ ?_
   . simp[ht];exact Qq 2 Z rfl rfl
   all_goals simp[rp]
theorem Qgy (ho:H[j]? = some (ae c r)) (hl:r.a<4611686018427387904):Ok Tryz.prog 140 [rp j] H (.ret (tkR c r).v) (H.set j (ae c (Qa r))):=by
 have hj:=Qk ho;have e1:Qo H j 0=(ae c r).cells:=Q7 (o:=ae c r) ho rfl;have e1L:∀ L,Qo (H++L) j 0=(ae c r).cells:=λL=>by rw[Qma L hj]; exact e1
 have e2:∀ (L:ZI) (f:AO->AO),Ab.setObj (H++L) j f=H.set j (f (ae c r))++L:=λL f=>by
  rw[Qcn (o:=ae c r) (by rw[Vc hj]; exact ho),Vn _ _ hj]
 have h139:=λL=>Qex (H:=H++L) (c:=c) (r:=r) (j:=j) (by rw[Vc hj]; exact ho);have w1:=QoW (show r.a<9223372036854775807 by omega);generalize tkR c r=t at h139 ⊢;refine Qt hm Tryz.func140 c140 (by simp[rp]) λZ => ?_;simp[i140,r140];refine Qb (h139 _) ?_;simp[Tok.v,Tok.c,rp,e1L,e2,ae,pdC,w1];exact Qq 2 (QbQ (c:=c) (a:=r.a+1) (v:=r.v) Z) (by simp) rfl
end
def Qis:ZG->Bool
 |[]=>false
 |b::_=>decide (48<=b.toNat/\b.toNat<=57)
def Q2 (c:Cx):Prop:=∀ t∈c.ts,t.k=2->Qis t.tx=true
def Qdc (s:ZG):Bool := !s.isEmpty && !Qis s
theorem Qc2 {c:Cx} (hn:Q2 c) {s:ZG} (hs:Qdc s=true) {r:Rd} (he:r.e=0):Qd c s r=decide ((tkR c r).tx=s):=by
 unfold Qdc at hs;rw[Va,VL,VL]at hs;unfold Qd QbE tkR;by_cases h:r.a<c.ts.length
 . simp only[he,h,dite_true,decide_true,Bool.true_and];by_cases h2:c.ts[r.a].k=2
   . have:=hn _ (Vp h) h2;have hne:c.ts[r.a].tx≠s:=λe=>by rw[e,hs.2]at this; cases this
     simp[h2,hne]
   . simp[h2]
 . have hne:([]:ZG)≠s:=λe=>by rw[<-e]at hs; simp at hs
   simp[he,h,zTk,hne]
theorem QhZ {c:Cx} (hn:Q2 c) {s:ZG} (hs:Qdc s=true) {r:Rd} (he:r.e=0):decide ((tkR c r).tx∈[s])=Qd c s r:=by
 rw[Qc2 hn hs he]; simp
theorem Qnb {c:Cx} {r:Rd} (he:r.e=0):QV c r=(decide ((tkR c r).k=1) && !decide ((tkR c r).tx∈QaB)):=by
 unfold QV QbE tkR;by_cases h:r.a<c.ts.length
 . simp[he,h]
 . simp[he,h,zTk]
theorem QkW {c:Cx} {r:Rd} (he:r.e=0):Qbb c r=decide ((tkR c r).k=2):=by
 unfold Qbb QbE tkR;by_cases h:r.a<c.ts.length
 . simp[he,h]
 . simp[he,h,zTk]
theorem Qkm (s:ZG):∀ aa:List (ZG×Int),lkm (.string (B s)) (mpK aa) (mpV aa)=(aa.find? λo=>decide (s=o.1)).map λo=>V o.2
 |[]=>rfl
 |o::r=>by
  have h:=Qkm s r;simp only[mpK,mpV]at h;simp only[mpK,mpV,Vl,lkm,List.find?_cons,QaI];by_cases hs:s=o.1
  . simp[hs]
  . simp[hs,h]
theorem Qmn {c:Cx} (hn:Q2 c) {r:Rd} (he:r.e=0):∀ {aa:List (ZG×Int)},(aa.all λo=>Qdc o.1)=true->QaH c aa r=(aa.find? λo=>decide ((tkR c r).tx=o.1)).map (·.2)
 |[],_=>rfl
 |o::l,h=>by
  rw[Yw,Va]at h;have:=Qmn hn he h.2;unfold QaH at this ⊢;rw[List.find?_cons,List.find?_cons,Qc2 hn h.1 he];by_cases ht:(tkR c r).tx=o.1
  . simp[ht]
  . simp[ht,this]
section
variable {H:ZI} {c:Cx} {r:Rd} {j:Nat}
theorem Qlg {G L:ZI} {j k ver T:Nat} {l:ZF} {n:Nat} (hj:j<G.length) (h:L[k]? = some ⟨wds l,T,ver,true⟩) (hn:n=l.length) (o:AO):IsS ((G++L).set j o) (.own (G.length+k) 0 n 1 ver) l:=by
 rw[Vn _ _ hj];have:=IsS.own1 (H:=G.set j o) (L:=L) (k:=k) h hn;simpa using this
def Qab (c:Cx) (s:ZG) (r:Rd):Rd:=if Qd c s r=true then Qa r else r
theorem QdH (hn:Q2 c) (ho:H[j]? = some (ae c r)) (hl:r.a<4611686018427387904) (he:r.e=0) {s:ZG} (hs:Qdc s=true) :
 Ok Tryz.prog 90 [rp j,st (B s)] H (.ret (bl (Qd c s r))) (H.set j (ae c (Qab c s r))):=by
 have hj:=Qk ho;have e1:Qo H j 0=(ae c r).cells:=Q7 (o:=ae c r) ho rfl;have e1L:∀ L,Qo (H++L) j 0=(ae c r).cells:=λL=>by rw[Qma L hj]; exact e1
 have e2:∀ (L:ZI) (f:AO->AO),Ab.setObj (H++L) j f=H.set j (f (ae c r))++L:=λL f=>by
  rw[Qcn (o:=ae c r) (by rw[Vc hj]; exact ho),Vn _ _ hj]
 have h93:=Qf9 (H:=H++[⟨[st (B s)],9,0,true⟩]) (c:=c) (r:=r) (j:=j) (by rw[Vc hj]; exact ho) (x:=.own H.length 0 1 1 0) (l:=[s]) (IsS.own1 (k:=0) rfl rfl) (by simp);rw[QhZ hn hs he]at h93;have w1:=QoW (show r.a<9223372036854775807 by omega);refine Qt hm Tryz.func90 c90 (by simp[rp]) λZ => ?_;simp[i90,r90];refine Qb h93 ?_;unfold Qab;by_cases hp:Qd c s r=true
 . simp[hp,rp,e1L,e2,ae,pdC,w1];exact Qq 2 (QbQ (c:=c) (a:=r.a+1) (v:=r.v) Z) (by simp) rfl
 . rw[Vm]at hp;simp[hp];rw[QcZ ho];exact Qq 2 Z rfl rfl
def QcF (c:Cx):ZF->Rd->Rd
 |[],r=>r
 |s::l,r=>QcF c l (Qj c s r).2
def PdV {α:Type} (c:Cx) (G:ZI) (j:Nat) (f:α->SV) (q:α×Rd) (o:Out) (H':ZI):Prop :=
 if q.2.e=0 then o=.ret (f q.1)/\H'=G.set j (ae c q.2)else o=.pan (QZ q.2.e q.2.p)/\Qu G [j] H'
theorem Qq4 (c:Cx):∀ (l:ZF) (r:Rd),r.e≠0->QcF c l r=r
 |[],r,_=>rfl
 |s::l,r,h=>by
  have hp:Qd c s r=false:=by simp[Qd,QbE,h]
  rw[QcF];have:(Qj c s r).2=r:=by simp[Qj,hp,Qg,h]
  rw[this]; exact Qq4 c l r h
theorem QzR (hn:Q2 c) (hj:j<H.length) {x:SV} {l:ZF} (hx:∀ o,IsS (H.set j o) x l) (hl:l.length<4611686018427387904) (hct:c.ts.length<4611686018427387904) (hw:∀ s∈l,Qdc s=true) {N:Nat} {K:ZH} {res:Rd}
 (ai:res.e=0->∀ U,K (.exit 0) U (H.set j (ae c res))) (hpan:res.e≠0->∀ U r,K (.panic (QZ res.e res.p)) U (H.set j (ae c r))) :
 ∀ (m i:Nat) (r:Rd) (U:Env),i+m=l.length->QcF c (l.drop i) r=res->r.e=0->r.a<=c.ts.length->U.get 0=rp j->U.get 6=x->U.get 7=V l.length->U.get 8=V i->LI Tryz.prog N Qf Qkp U (H.set j (ae c r)) K:=by
 intro m
 induction m with
 |zero =>
  intro i r U hi hr he ha h0 h6 h7 h8;refine Qp hm Qkp.eq_1 ?_;have e:i=l.length:=by omega
  subst e;rw[V7,QcF]at hr;subst hr;simp[h0,h6,h7,h8];exact ai he _
 |succ m ih =>
  intro i r U hi hr he ha h0 h6 h7 h8;refine Qp hm Qkp.eq_1 ?_;have hlt:i<l.length:=by omega
  have ax:(i:Int)<l.length:=by omega
  have hxo:=hx (ae c r);have hv:=hxo.vA [] hlt;have ho:=hxo.okA [] hlt;simp only[VE]at hv ho;rw[VN hlt,QcF]at hr;have hws:=hw _ (Vp hlt);generalize l[i]=s at hv hr hws;have hoj:(H.set j (ae c r))[j]? = some (ae c r):=by simp[hj]
  have h90:=QdH hn hoj (by omega) he hws;simp[h0,h6,h7,h8,ax,hxo.vd,hxo.ug,hxo.sl,hxo.len,hv,ho];refine Qb h90 ?_;by_cases hp:Qd c s r=true
  . have ht:(Qj c s r).2=Qa r:=by simp[Qj,hp]
    rw[ht]at hr;have hlt2:=QaP hp;simp[hp,h0,h6,h7,h8,Qab];exact ih (i+1) (Qa r) _ (by omega) hr he (by simp[Qa]; omega) (by simp) (by simp) (by simp) (by simp[Qaj (show i<9223372036854775807 by omega)])
  . rw[Vm]at hp;have ht:(Qj c s r).2=Qg c 11 r:=by simp[Qj,hp]
    have hfe:(Qg c 11 r).e=11:=by simp[Qg,he]
    rw[ht,Qq4 c _ _ (by rw[hfe]; decide)]at hr;have h79:=Qdk hoj 11;have hfp:(Qg c 11 r).p=Qm c r:=by simp[Qg,he]
    simp[hp,h0,h6,h7,h8,Qab];refine Qb h79 ?_;rw[<-hr,hfe,hfp]at hpan;simp[hp];exact hpan (by decide) _ r
theorem Qle (hn:Q2 c) (ho:H[j]? = some (ae c r)) {x:SV} {l:ZF} (hx:∀ o,IsS (H.set j o) x l) (hl:l.length<4611686018427387904) (hct:c.ts.length<4611686018427387904) (hw:∀ s∈l,Qdc s=true) (he:r.e=0) (ha:r.a<=c.ts.length) :
 OkP Tryz.prog 87 [rp j,x] H (PdV c H j (λ_:Unit=>.tup []) ((),QcF c l r)):=by
 have hj:=Qk ho;have hxo:=hx (ae c r);refine QaY hm Tryz.func87 c87 (by have:=hxo.und; simp at this; simp[rp]) λZ => ?_;simp[i87,r87,hxo.vd,hxo.ug,hxo.sl,hxo.len];refine LI.cong (H':=H.set j (ae c r)) (QcZ ho) ?_;refine QzR hn hj hx hl hct hw (res:=QcF c l r) (λhe U => ?_) (λhe U r' => ?_) l.length 0 r _ (by omega) rfl he ha (by simp) (by simp) (by simp) (by simp)
 . simp;exact⟨_,_,by unfold PdV; rw[Zr he]; exact⟨rfl,rfl⟩,Qi⟩
 . exact⟨_,_,by unfold PdV; rw[Zq he]; exact⟨rfl,Qu.set (by simp) _⟩,Qi⟩
end
section
variable {H:ZI} {c:Cx} {r:Rd} {j:Nat}
set_option maxRecDepth 10000 in
theorem Qrx (s:ZG):Ok Tryz.prog 146 [st (B s)] H (.ret (bl (decide (s∈QaB)))) H:=by
 refine Qt hm Tryz.func146 c146 (by simp) λZ => ?_;by_cases h:s∈QaB
 . have h':=h;simp only[QaB,Vd,Vu,Zw]at h';rcases h' with rfl | rfl | rfl | rfl | rfl | rfl | rfl | rfl | rfl | rfl | rfl | rfl | rfl | rfl | rfl | rfl | rfl | rfl | rfl | rfl | rfl | rfl <;>
    (simp -implicitDefEqProofs[QmQ,QmH,h]; exact Qi)
 . have h':=h;simp only[QaB,Vd,Vu,Zw,not_or]at h';simp -implicitDefEqProofs[QmQ,QmH,h,h'];exact Qi
theorem QhS (ho:H[j]? = some (ae c r)) (he:r.e=0):Ok Tryz.prog 92 [rp j] H (.ret (bl (QV c r))) H:=by
 have hj:=Qk ho;have h139:=Qex ho;rw[Qnb he];generalize tkR c r=t at h139 ⊢;refine Qt hm Tryz.func92 c92 (by simp[rp]) λZ => ?_;simp -implicitDefEqProofs[i92,r92];refine Qb h139 ?_;simp -implicitDefEqProofs[Tok.v,Tok.c];by_cases hk:t.k=1
 . simp -implicitDefEqProofs[hk];refine QL (r:=bl (decide (t.tx∈QaB))) (λ_=>Qrx t.tx) ?_;simp -implicitDefEqProofs[hk];exact Qq 2 Z rfl rfl
 . simp -implicitDefEqProofs[hk];refine Qcf _ _ _ _ ?_;simp -implicitDefEqProofs[hk];exact Qq 2 Z rfl rfl
def dpR (c:Cx) (r:Rd):Rd:=if r.v=40 then Qg c 5 (av r)else Qa (av r)
theorem Qtz (ho:H[j]? = some (ae c r)) (hv:0<=r.v/\r.v<=40) (ha:r.a<4611686018427387904) (he:r.e=0):OkP Tryz.prog 178 [rp j] H (PdV c H j (λ_:Unit=>.tup []) ((),dpR c r)):=by
 have hj:=Qk ho;have e1:Qo H j 0=(ae c r).cells:=Q7 (o:=ae c r) ho rfl;have e2:∀ (f:AO->AO),Ab.setObj H j f=H.set j (f (ae c r)):=λf=>Qcn ho f;have w1:IntKind.i64.wrap (r.v+1)=r.v+1:=Qam (by omega) (by omega);have ho2:(H.set j (ae c (av r)))[j]? = some (ae c (av r)):=by simp[hj]
 have h79:=Qdk ho2 5;have h140:=Qgy ho2 (by simpa[av]using ha);have e3:=QxQ hj (ae c (av r)).cells 127;have hu:ae c (av r)=⟨[Qbl c.ts,V r.a,V c.en,mpS orO,mpS QaU,mpS QaJ,mpS QaZ,mpS QaV,V (r.v+1)],127,0,true⟩:=by simp[ae,pdC,av,w1]
 simp only[hu]at h79 h140 e3;refine QaY hm Tryz.func178 c178 (by simp[rp]) λZ => ?_;by_cases hv2:r.v=40
 . have hb:dpR c r=Qg c 5 (av r):=by rw[dpR,Zr hv2]
   have hb2:(Qg c 5 (av r)).e=5/\(Qg c 5 (av r)).p=Qm c (av r):=by simp[Qg,av,he]
   have hgt:40<r.v+1:=by omega
   simp -implicitDefEqProofs[Qmz,Qny,rp,e1,e2,ae,pdC,w1,e3,hgt];refine Qb h79 ?_;simp -implicitDefEqProofs;refine⟨_,_,?_,Qi⟩;unfold PdV;rw[hb,Zq (by rw[hb2.1]; decide),hb2.1,hb2.2];exact⟨rfl,Qu.set (by simp) _⟩
 . have hb:dpR c r=Qa (av r):=by rw[dpR,Zq hv2]
   have hgt:¬ 40<r.v+1:=by omega
   simp -implicitDefEqProofs[Qmz,Qny,rp,e1,e2,ae,pdC,w1,e3,hgt];refine Qb h140 ?_;simp -implicitDefEqProofs;refine⟨_,_,?_,Qi⟩;unfold PdV;rw[hb,Zr (by exact he)];exact⟨rfl,by simp⟩
def PdP (c:Cx) (G:ZI) (j:Nat) (q:Ex×Rd) (o:Out) (H':ZI):Prop:=PdV c G j (λe:Ex=>e.v) q o H'
def PdC (c:Cx) (k:ZP) (ar:ZJ) (F:Rd->Ex×Rd) (d:Nat):Prop :=
 ∀ {G:ZI} {j:Nat} {r:Rd},G[j]? = some (ae c r)->Gd c d r->r.e=0->OkP Tryz.prog k (rp j::ar) G (PdP c G j (F r))
def OpC (c:Cx) (j:Nat) (f:SV) (Iv:ZI->Prop) (F:Rd->Ex×Rd) (d:Nat):Prop :=
 ∀ {G:ZI} {r:Rd},Iv G->G[j]? = some (ae c r)->Gd c d r->r.e=0->QeY Tryz.prog f [] G (PdP c G j (F r))
def Qeg (c:Cx) (op:Int) (F:Rd->Ex×Rd) (r:Rd):Ex×Rd :=
 if r.v=40 then(zE,Qg c 5 (av r))else(.mk op 0 [] [(F (Qa (av r))).1] (Qm c r),dnR (F (Qa (av r))).2)
theorem Qu.of_app {H L H':ZI} {js:List Nat} (h:Qu (H++L) js H'):Qu H js H':=by
 refine⟨Vf (by simp) h.len,λi hi hj => ?_⟩;rw[h.at_ i (by simp; omega) hj,Vc hi]
theorem Qu.of_set {H L H':ZI} {o:AO} (h:Qu (H.set j o++L) [j] H'):Qu H [j] H' :=
 (Qu.set (by simp) o).trans h.of_app
theorem PdP.pan {G H':ZI} {q:Ex×Rd} (he:q.2.e≠0) (h:Qu G [j] H'):PdP c G j q (.pan (QZ q.2.e q.2.p)) H':=by
 unfold PdP PdV; rw[Zq he]; exact⟨rfl,h⟩
theorem PdP.ret {G H':ZI} {q:Ex×Rd} (he:q.2.e=0) (h:H'=G.set j (ae c q.2)):PdP c G j q (.ret q.1.v) H':=by
 unfold PdP PdV; rw[Zr he]; exact⟨rfl,h⟩
theorem Qr9 (hct:c.ts.length<4611686018427387904) {Iv:ZI->Prop} (hI:∀ G o L,Iv G->j<G.length->Iv (G.set j o++L)) {d:Nat} (hd:d<=40) {F:Rd->Ex×Rd} {f:SV} (hvd:f.vd=true) (hug:f.ug=f) (hfu:f.under H.length=true)
 (hF:∀ d',d=d'+1->OpC c j f Iv F d') (hi:Iv H) (ho:H[j]? = some (ae c r)) (hg:Gd c d r) (he:r.e=0) (hlt:r.a<c.ts.length) (op:Int):OkP Tryz.prog 137 [rp j,V op,f] H (PdP c H j (Qeg c op F r)):=by
 have hj:=Qk ho;have hv:r.v+d=40:=hg.v.resolve_left (by simp[he]);have e1:Qo H j 0=(ae c r).cells:=Q7 (o:=ae c r) ho rfl;have hoL:∀ L,(H++L)[j]? = some (ae c r):=λL=>by rw[Vc hj]; exact ho
 have h91:=λL=>QgH (hoL L);have h178:=λL=>Qtz (hoL L) (by omega) (by omega) he;refine QaY hm Tryz.func137 c137 (by simp[rp]) λZ => ?_;simp -implicitDefEqProofs[i137,r137,rp];refine Qb (by simpa[rp]using h91 _) ?_;simp -implicitDefEqProofs;refine QQ (by simpa[rp]using h178 _) ?_;intro o H' hp;unfold PdV at hp;by_cases hv2:r.v=40
 . have hb:dpR c r=Qg c 5 (av r):=by rw[dpR,Zr hv2]
   have hb2:(Qg c 5 (av r)).e≠0:=by simp[Qg,av,he]
   have hpf:Qeg c op F r=(zE,Qg c 5 (av r)):=by rw[Qeg,Zr hv2]
   rw[hb,Zq hb2]at hp;obtain⟨rfl,hk⟩:=hp;simp -implicitDefEqProofs;refine⟨_,_,?_,Qi⟩;rw[hpf];exact PdP.pan hb2 hk.of_app
 . obtain⟨d',rfl⟩:∃ d',d=d'+1:=⟨d-1,by omega⟩;have hb:dpR c r=Qa (av r):=by rw[dpR,Zq hv2]
   have w1:IntKind.i64.wrap (r.v+1)=r.v+1:=Qam (by omega) (by omega);have hg2:Gd c d' (Qa (av r)):=⟨hlt,.inr (by simp[Qa,av,w1]; omega)⟩;rw[hb,Zr (by exact he)]at hp;obtain⟨rfl,rfl⟩:=hp;rw[Vn _ _ hj];have hc:=λL=>hF d' rfl (G:=H.set j (ae c (Qa (av r)))++L) (r:=Qa (av r)) (hI _ _ _ hi hj) (by rw[Vc (by simpa using hj)]; simp[hj]) hg2 he;simp -implicitDefEqProofs;refine Qre (hc _) ?_;intro o H' hp;unfold PdP PdV at hp;have hpf:Qeg c op F r=(.mk op 0 [] [(F (Qa (av r))).1] (Qm c r),dnR (F (Qa (av r))).2):=by rw[Qeg,Zq hv2]
   rw[hpf];generalize F (Qa (av r))=q at hp ⊢;obtain⟨x,r2⟩:=q;simp only at hp ⊢;by_cases ah:r2.e=0
   . rw[Zr ah]at hp;obtain⟨rfl,rfl⟩:=hp;rw[Vn _ _ (by simpa using hj),VF];have e3:=λcs L=>ocL (H:=H) hj cs 127 L;have e4:=λcs L g=>soL (H:=H) hj ⟨cs,127,0,true⟩ L g;simp -implicitDefEqProofs[Ex.v,e3,e4,pdC,ae];refine⟨_,_,PdP.ret (q:=(.mk op 0 [] [x] (Qm c r),dnR r2)) ah rfl,?_⟩;refine Qq 3 (QbQ (c:=c) (a:=r2.a) (v:=IntKind.i64.wrap (r2.v-1)) Z) (by simp) ?_;simp[Ex.v,Ex.c,Ex.cL]
   . rw[Zq ah]at hp;obtain⟨rfl,hk⟩:=hp;simp -implicitDefEqProofs;refine⟨_,_,?_,Qi⟩;exact PdP.pan (q:=(.mk op 0 [] [x] (Qm c r),dnR r2)) ah hk.of_set
end
theorem QnE {c:Cx} {s:ZG} {r:Rd} (h:r.e≠0):(Qj c s r).2=r:=by
 have hp:Qd c s r=false:=by simp[Qd,QbE,h]
 simp[Qj,hp,Qg,h]
theorem Qrw {c:Cx} {orP:Rd->Ex×Rd} {m:Nat} {l:List Ex} {r:Rd} (h:r.e≠0):(QP c orP m l r).2=r:=by
 cases m with
 |zero=>rfl
 |succ m=>rw[QP,QnE h,Zr h]
def Qei (c:Cx):Option (List Ex)×Rd->List Ex×Rd
 | (none,r3)=>([],r3)
 | (some l,r3)=>(l,dnR (Qj c [41] r3).2)
def QcL (c:Cx) (orP:Rd->Ex×Rd) (m:Nat) (r:Rd):List Ex×Rd :=
 if Qd c [40] r=true then
  if r.v=40 then([],Qg c 5 (av r))else
  Qei c (QP c orP m [(orP (Qa (av r))).1] (orP (Qa (av r))).2)
 else([],Qg c 11 r)
theorem Qqu {c:Cx} {q:Option (List Ex)×Rd} (h:q.2.e≠0):(Qei c q).2.e=q.2.e/\(Qei c q).2.p=q.2.p:=by
 obtain⟨o,r3⟩:=q
 cases o with
 |none=>exact⟨rfl,rfl⟩
 |some l =>
  simp only[Qei];rw[QnE h];exact⟨rfl,rfl⟩
section
variable {H:ZI} {c:Cx} {r:Rd} {j:Nat}
theorem QtB (l:List Ex) (x:Ex):Ex.cL (l++[x])=Ex.cL l++x.c:=by
 induction l with
 |nil=>simp[Ex.cL]
 |cons y l ih=>simp[Ex.cL,ih]
theorem Qh6 (l:List Ex):(Ex.cL l).length=l.length*5:=by
 induction l with
 |nil=>rfl
 |cons y l ih=>simp[Ex.cL,ih]; omega
theorem QBz (hn:Q2 c) (hct:c.ts.length<4611686018427387904) (hj:j<H.length) {d:Nat} {F:Rd->Ex×Rd} (hF:PdC c 32 [] F d) (hk:Kp c d F) {n:Nat} (hn3:n<=3) {o0:AO} {N:Nat} {K:ZH} {res:Option (List Ex)×Rd}
 (ai:∀ l,res.2.e=0->res.1=some l->∀ U M,l.length=n->Gd c d res.2->U.get 0=rp j->U.get 5=.own (H.length+1) 0 l.length 5 (l.length-1)->K (.exit 0) U (H.set j (ae c res.2)++o0::⟨Ex.cL l,25,l.length-1,true⟩::M))
 (hpan:res.2.e≠0->∀ U H',Qu H [j] H'->K (.panic (QZ res.2.e res.2.p)) U H') :
 ∀ (m k:Nat) (l:List Ex) (r:Rd) (M:ZI) (U:Env),l.length=k+1->k+1+m=n->QP c F m l r=res->Gd c d r->r.e=0->U.get 0=rp j->U.get 1=V n->U.get 5=.own (H.length+1) 0 (k+1) 5 k ->
  LI Tryz.prog N Qf QlX U (H.set j (ae c r)++o0::⟨Ex.cL l,25,k,true⟩::M) K:=by
 intro m
 induction m with
 |zero =>
  intro k l r M U hl hm hr hg he h0 h1 h5;refine Qp Go.Proofs.YtmkdpmfhlfhjkaaGreatDoor.hm QlX.eq_1 ?_;subst hr;have hkn:((k:Int)+1)=n:=by omega
  simp[h0,h1,h5,hkn];have hx2:=λU=>ai l he rfl U M (by omega) hg;rw[hl]at hx2;exact hx2 _ (by simp) (by simp)
 |succ m ih =>
  intro k l r M U hl hm hr hg he h0 h1 h5;refine Qp Go.Proofs.YtmkdpmfhlfhjkaaGreatDoor.hm QlX.eq_1 ?_;have hkn:((k:Int)+1)<n:=by omega
  rw[QP]at hr;simp[h0,h1,h5,hkn,rp];have hG:∀ L,(H.set j (ae c r)++L)[j]? = some (ae c r):=λL=>by rw[Vc (by simpa using hj)]; simp[hj]
  have hx:∀ o,IsS ((H.set j (ae c r)++(o0::⟨Ex.cL l,25,k,true⟩::(M++[⟨[st (B [44])],9,0,true⟩]))).set j o) (.own (H.length+(M.length+2)) 0 1 1 0) [[44]]:=by
   intro o;have:=Qlg (G:=H.set j (ae c r)) (L:=o0::⟨Ex.cL l,25,k,true⟩::(M++[⟨[st (B [44])],9,0,true⟩])) (j:=j) (k:=M.length+2) (ver:=0) (T:=9) (l:=[[44]]) (by simpa using hj) (by simp[wds]) rfl o;simpa using this
  have h87:=Qle hn (hG _) hx (by decide) hct (by intro s hs; simp at hs; subst hs; rfl) he hg.a;have hwr:QcF c [[44]] r=(Qj c [44] r).2:=rfl;rw[hwr]at h87;refine QQ (by simpa[rp]using h87) ?_;intro o H' hp;unfold PdV at hp;by_cases hb:(Qj c [44] r).2.e=0
  . rw[Zq (by simp[hb])]at hr;have hpk:Qd c [44] r=true:=by
     rw[<-Bool.not_eq_false];intro hpk;simp[Qj,hpk,Qg,he]at hb
    have ht:(Qj c [44] r).2=Qa r:=by simp[Qj,hpk]
    rw[ht]at hr hp;rw[Zr (by exact he)]at hp;obtain⟨rfl,rfl⟩:=hp;rw[Vn _ _ (by simpa using hj),VF];have hg2:=hg.next (QaP hpk)
    have hG2:∀ L,(H.set j (ae c (Qa r))++L)[j]? = some (ae c (Qa r)):=λL=>by rw[Vc (by simpa using hj)]; simp[hj]
    have hc:=λL=>hF (hG2 L) hg2 he;obtain⟨k1,k2⟩:=hk _ hg2;simp[h0,h1,h5];refine QQ (hc _) ?_;intro o H' hp;unfold PdP PdV at hp;generalize F (Qa r)=q at hr hp k1;obtain⟨x,r2⟩:=q;simp only at hr hp k1;by_cases ah:r2.e=0
    . rw[Zr ah]at hp;obtain⟨rfl,rfl⟩:=hp;rw[Vn _ _ (by simpa using hj),VF];simp[h0,h1,h5,Ex.v,rp];refine⟨by omega,by omega,by rw[Qh6,hl],?_⟩;refine LI.cong (H':=H.set j (ae c r2)++o0::⟨Ex.cL (l++[x]),25,k+1,true⟩::(M++[⟨[st (B [44])],9,0,true⟩,⟨x.c,25,0,true⟩])) (by rw[QtB]) ?_;exact ih (k+1) (l++[x]) r2 _ _ (by simp[hl]) (by omega) hr k1 ah (by simp[rp]) (by simp) (by simp)
    . rw[Zq ah]at hp;obtain⟨rfl,hk⟩:=hp;simp;have hb2:=Qrw (c:=c) (orP:=F) (m:=m) (l:=l++[x]) ah;rw[hr]at hb2;rw[hb2]at hpan;exact hpan ah _ _ hk.of_set
  . rw[Zr hb]at hr;subst hr;rw[Zq hb]at hp;obtain⟨rfl,hk⟩:=hp;simp;exact hpan hb _ _ hk.of_set
theorem QjE (hn:Q2 c) (hct:c.ts.length<4611686018427387904) {d:Nat} (hd:d<=40) {F:Rd->Ex×Rd} (hF:∀ d',d=d'+1->PdC c 32 [] F d') (hk:∀ d',d=d'+1->Kp c d' F) {m:Nat} (hm3:m<=2)
 (ho:H[j]? = some (ae c r)) (hg:Gd c d r) (he:r.e=0):OkP Tryz.prog 177 [rp j,V ((m:Int)+1)] H (PdV c H j (λl:List Ex=>.slc (Ex.cL l) l.length) (QcL c F m r)):=by
 have hj:=Qk ho;have hv:r.v+d=40:=hg.v.resolve_left (by simp[he]);have hoL:∀ L,(H++L)[j]? = some (ae c r):=λL=>by rw[Vc hj]; exact ho
 have h93:=Qf9 (H:=H++[⟨[st (B [40])],9,0,true⟩]) (c:=c) (r:=r) (j:=j) (hoL _) (x:=.own H.length 0 1 1 0) (l:=[[40]]) (IsS.own1 (k:=0) rfl rfl) (by simp);rw[QhZ hn rfl he]at h93;have h79:=Qdk (hoL [⟨[st (B [40])],9,0,true⟩]) 11;have h178:=λL=>Qtz (hoL L) (by omega) (by have:=hg.a; omega) he;refine QaY Go.Proofs.YtmkdpmfhlfhjkaaGreatDoor.hm Tryz.func177 c177 (by simp[rp]) λZ => ?_;simp[i177,r177,rp];refine Qb (by simpa[rp]using h93) ?_;unfold QcL;by_cases hp:Qd c [40] r=true
 . rw[Zr hp];simp[hp];refine QQ (by simpa[rp]using h178 _) ?_;intro o H' hp2;unfold PdV at hp2;by_cases hv2:r.v=40
   . have hb:dpR c r=Qg c 5 (av r):=by rw[dpR,Zr hv2]
     have hb2:(Qg c 5 (av r)).e≠0:=by simp[Qg,av,he]
     rw[hb,Zq hb2]at hp2;obtain⟨rfl,hk⟩:=hp2;rw[Zr hv2];simp;refine⟨_,_,?_,Qi⟩;unfold PdV;rw[Zq hb2];exact⟨rfl,hk.of_app⟩
   . obtain⟨d',rfl⟩:∃ d',d=d'+1:=⟨d-1,by omega⟩;have hlt:=QaP hp;have hb:dpR c r=Qa (av r):=by rw[dpR,Zq hv2]
     have w1:IntKind.i64.wrap (r.v+1)=r.v+1:=Qam (by omega) (by omega);have hg2:Gd c d' (Qa (av r)):=⟨hlt,.inr (by simp[Qa,av,w1]; omega)⟩;rw[hb,Zr (by exact he)]at hp2;obtain⟨rfl,rfl⟩:=hp2;rw[Vn _ _ hj,Zq hv2];have hG2:∀ L,(H.set j (ae c (Qa (av r)))++L)[j]? = some (ae c (Qa (av r))):=λL=>by rw[Vc (by simpa using hj)]; simp[hj]
     have hc:=λL=>hF d' rfl (hG2 L) hg2 he;obtain⟨k1,k2⟩:=hk d' rfl _ hg2;simp;refine QQ (by simpa[rp]using hc _) ?_;intro o H' hp2;unfold PdP PdV at hp2;generalize F (Qa (av r))=q at hp2 k1 ⊢;obtain⟨x,r2⟩:=q;simp only at hp2 k1 ⊢;by_cases ah:r2.e=0
     . rw[Zr ah]at hp2;obtain⟨rfl,rfl⟩:=hp2;rw[Vn _ _ (by simpa using hj),VF];simp[Ex.v];refine LI.cong (H':=H.set j (ae c r2)++⟨[st (B [40])],9,0,true⟩::⟨Ex.cL [x],25,0,true⟩::[]) (by simp[Ex.cL]) ?_;have hen:∀ q:Option (List Ex)×Rd,q.2.e≠0->∀ H',Qu H [j] H'->PdV c H j (λl:List Ex=>.slc (Ex.cL l) l.length) (Qei c q) (.pan (QZ q.2.e q.2.p)) H':=λq hq H' hk=>by
        obtain⟨h1,h2⟩:=Qqu (c:=c) hq;unfold PdV;rw[Zq (by rw[h1]; exact hq),h1,h2];exact⟨rfl,hk⟩
       generalize ag:QP c F m [x] r2=res;refine QBz hn hct hj (hF d' rfl) (hk d' rfl) (n:=m+1) (by omega) (res:=res) (λl he3 hl U M hln hg3 h0 h5 => ?_) (λhe3 U H' hk => ?_) m 0 [x] r2 [] _ rfl (by omega) ag k1 ah ?_ ?_ ?_
       . obtain⟨o,r3⟩:=res;subst hl;simp only at he3 hg3 hen ⊢;have hG:∀ L,(H.set j (ae c r3)++L)[j]? = some (ae c r3):=λL=>by rw[Vc (by simpa using hj)]; simp[hj]
         have hx:∀ o,IsS ((H.set j (ae c r3)++((⟨[st (B [40])],9,0,true⟩:AO)::⟨Ex.cL l,25,l.length-1,true⟩::(M++[⟨[st (B [41])],9,0,true⟩]))).set j o) (.own (H.length+(M.length+2)) 0 1 1 0) [[41]]:=by
          intro o;have:=Qlg (G:=H.set j (ae c r3)) (L:=(⟨[st (B [40])],9,0,true⟩:AO)::⟨Ex.cL l,25,l.length-1,true⟩::(M++[⟨[st (B [41])],9,0,true⟩])) (j:=j) (k:=M.length+2) (ver:=0) (T:=9) (l:=[[41]]) (by simpa using hj) (by simp[wds]) rfl o;simpa using this
         have h87:=Qle hn (hG _) hx (by decide) hct (by intro s hs; simp at hs; subst hs; rfl) he3 hg3.a;have hwr:QcF c [[41]] r3=(Qj c [41] r3).2:=rfl;rw[hwr]at h87;simp[h0,rp];refine QQ (by simpa[rp]using h87) ?_;intro o H' hp;unfold PdV at hp;by_cases hb:(Qj c [41] r3).2.e=0
         . rw[Zr hb]at hp;obtain⟨rfl,rfl⟩:=hp;rw[Vn _ _ (by simpa using hj),VF];have e3:=λcs L=>ocL (H:=H) hj cs 127 L;have e4:=λcs L g=>soL (H:=H) hj ⟨cs,127,0,true⟩ L g;generalize hr4:(Qj c [41] r3).2=r4 at hb ⊢;simp[h0,h5,rp,e3,e4,pdC,ae];have hen2:Qei c (some l,r3)=(l,dnR r4):=by rw[Qei,hr4]
           refine⟨_,_,by unfold PdV; rw[hen2,Zr (show(dnR r4).e=0 from hb)]; exact⟨rfl,rfl⟩,?_⟩;refine Qq 3 (QbQ (c:=c) (a:=r4.a) (v:=IntKind.i64.wrap (r4.v-1)) Z) (by simp) ?_;have ht:List.take (l.length*5) (Ex.cL l)=Ex.cL l:=VD (by rw[Qh6]; omega);simp[Qh6,ht,QcY _ _ _ _ (Ex.undL _ l)]
         . rw[Zq hb]at hp;obtain⟨rfl,hk⟩:=hp;simp;refine⟨_,_,?_,Qi⟩;unfold PdV;rw[Zq (by exact hb)];exact⟨rfl,hk.of_set⟩
       . simp;exact⟨_,_,hen res he3 _ hk,Qi⟩
       all_goals simp[rp]
     . rw[Zq ah]at hp2;obtain⟨rfl,hk⟩:=hp2;simp;refine⟨_,_,?_,Qi⟩;have hb2:=Qrw (c:=c) (orP:=F) (m:=m) (l:=[x]) ah;obtain⟨h1,h2⟩:=Qqu (c:=c) (q:=QP c F m [x] r2) (by rw[hb2]; exact ah);unfold PdV;rw[Zq (by rw[h1,hb2]; exact ah),h1,h2,hb2];exact⟨rfl,hk.of_set⟩
 . rw[Zq hp];rw[Vm]at hp;simp[hp];refine Qb (by simpa[rp]using h79) ?_;simp;refine⟨_,_,?_,Qi⟩;have hfe:(Qg c 11 r).e=11/\(Qg c 11 r).p=Qm c r:=by simp[Qg,he]
   unfold PdV;rw[Zq (by simp[hfe])];refine⟨by simp[hfe],?_⟩;exact Qu.of_app (Qu.refl _ _)
end
structure Qfi (c:Cx):Prop where
 num:Q2 c
 wrd:∀ t∈c.ts,t.k=1->t.tx≠[45]/\t.tx≠[40]
def Qe {α:Type} (q q':α×Rd):Prop:=(q.2.e=0/\q'=q)\/(q.2.e≠0/\q'.2.e=q.2.e/\q'.2.p=q.2.p)
theorem PdV.eqv {α:Type} {c:Cx} {G:ZI} {j:Nat} {f:α->SV} {q q':α×Rd} {o:Out} {H':ZI} (h:Qe q q') (hp:PdV c G j f q o H'):PdV c G j f q' o H':=by
 rcases h with ⟨h1,rfl⟩|⟨h1,h2,h3⟩
 . exact hp
 . unfold PdV at hp ⊢;rw[Zq h1]at hp;rw[Zq (by rw[h2]; exact h1),h2,h3];exact hp
theorem QsH {c:Cx} {s:ZG} {r:Rd}:Qd c s (av r)=Qd c s r:=rfl
theorem Qmj {c:Cx} {s:ZG} {r:Rd} (hp:Qd c s r=true) (hv:r.v≠40):QA c s r=(Qm c r,Qa (av r)):=by
 unfold QA;rw[Zq (by simp[hv])];unfold Qj;rw[QsH,Zr hp];rfl
theorem Qlm {c:Cx} {s:ZG} {r:Rd} (he:r.e=0) (hp:Qd c s r=true) (hv:r.v=40):(QA c s r).2.e=5/\(QA c s r).2.p=Qm c r:=by
 unfold QA;rw[Zr ⟨hp,hv⟩,QnE (by simp[av,Qg,he])];simp[av,Qg,he]
theorem QC7 {c:Cx} {s:ZG} {r:Rd} (he:r.e=0) (hp:Qd c s r=false):(QA c s r).2.e=11/\(QA c s r).2.p=Qm c r:=by
 unfold QA;rw[Zq (by simp[hp])];unfold Qj;rw[QsH,hp];simp[Qg,av,he,Qm]
theorem QrT {c:Cx} {op:Int} {F:Rd->Ex×Rd} {s:ZG} {r:Rd} (he:r.e=0) (hp:Qd c s r=true) :
 Qe (Qeg c op F r) (if(QA c s r).2.e≠0 then(zE,(QA c s r).2)else(.mk op 0 [] [(F (QA c s r).2).1] (QA c s r).1,dnR (F (QA c s r).2).2)):=by
 unfold Qeg;by_cases hv:r.v=40
 . obtain⟨h1,h2⟩:=Qlm he hp hv;rw[Zr hv,Zr (by rw[h1]; decide)];right;simp[Qg,av,he,h1,h2,Qm]
 . rw[Zq hv,Qmj hp hv,Zq (by simp[Qa,av,he])];by_cases h:(F (Qa (av r))).2.e=0
   . exact .inl ⟨h,rfl⟩
   . exact .inr ⟨h,rfl,rfl⟩
theorem QzJ {c:Cx} {orP:Rd->Ex×Rd} {r:Rd} (he:r.e=0) (hp:Qd c [40] r=true) :
 Qe ((((QcL c orP 0 r).1.headD zE),(QcL c orP 0 r).2):Ex×Rd) (if(QA c [40] r).2.e≠0 then(zE,(QA c [40] r).2)else((orP (QA c [40] r).2).1,dnR (Qj c [41] (orP (QA c [40] r).2).2).2)):=by
 unfold QcL;rw[Zr hp];by_cases hv:r.v=40
 . obtain⟨h1,h2⟩:=Qlm he hp hv;rw[Zr hv,Zr (by rw[h1]; decide)];right;simp[Qg,av,he,h1,h2,Qm]
 . rw[Zq hv,Qmj hp hv,Zq (by simp[Qa,av,he])];simp only[QP,Qei,List.headD_cons];generalize dnR (Qj c [41] (orP (Qa (av r))).2).2=z;by_cases h:z.e=0
   . exact .inl ⟨h,rfl⟩
   . exact .inr ⟨h,rfl,rfl⟩
theorem QrL {c:Cx} {orP:Rd->Ex×Rd}:∀ (m:Nat) (l:List Ex) (r:Rd),(QP c orP m l r).1=none->(QP c orP m l r).2.e≠0
 |0,l,r,h=>by simp[QP]at h
 |m+1,l,r,h=>by
  rw[QP]at h ⊢;by_cases hb:(Qj c [44] r).2.e≠0
  . rw[Zr hb]; exact hb
  . rw[Zq hb]at h ⊢;exact QrL m _ _ h
theorem QoT {c:Cx} {orP:Rd->Ex×Rd} {s:ZG} {op p:Int} {m:Nat} {r:Rd} (he:(Qj c s r).2.e=0) :
 Qe ((.mk op 0 [] (QcL c orP m (Qj c s r).2).1 p,(QcL c orP m (Qj c s r).2).2):Ex×Rd) (Qcm c orP s op m p r):=by
 unfold QcL Qcm;generalize (Qj c s r).2=r1 at he ⊢;by_cases hp:Qd c [40] r1=true
 . rw[Zr hp];by_cases hv:r1.v=40
   . obtain⟨h1,h2⟩:=Qlm he hp hv;rw[Zr hv];simp only[];rw[Zr (by rw[h1]; decide)];right;simp[Qg,av,he,h1,h2,Qm]
   . rw[Zq hv,Qmj hp hv];simp only[];rw[Zq (by simp[Qa,av,he])];have hno:=QrL (c:=c) (orP:=orP) m [(orP (Qa (av r1))).1] (orP (Qa (av r1))).2;generalize QP c orP m [(orP (Qa (av r1))).1] (orP (Qa (av r1))).2=q at hno ⊢;obtain⟨o,r3⟩:=q
     cases o with
     |none =>
      simp only[Qei];by_cases h:r3.e=0
      . exact absurd h (hno rfl)
      . exact .inr ⟨h,rfl,rfl⟩
     |some l =>
      simp only[Qei];generalize dnR (Qj c [41] r3).2=z;by_cases h:z.e=0
      . exact .inl ⟨h,rfl⟩
      . exact .inr ⟨h,rfl,rfl⟩
 . rw[Vm]at hp;obtain⟨h1,h2⟩:=QC7 he hp;rw[Zq (by simp[hp])];simp only[];rw[Zr (by rw[h1]; decide)];right;simp[Qg,he,h1,h2]
section
variable {H:ZI} {c:Cx} {r:Rd} {j:Nat}
theorem Qjz (hT:Qfi c) {s:ZG} (hp:Qd c s r=true) (hs:s=[45]\/s=[40]\/s∈QaB):QV c r=false:=by
 obtain⟨he,h,h2,h3⟩:=QhU hp;rw[Qnb he];have ht:tkR c r=c.ts[r.a]:=by simp[tkR,h]
 rw[ht,h3];rcases hs with rfl|rfl|hs
 . have:c.ts[r.a].k≠1:=λhk=>(hT.wrd _ (Vp h) hk).1 h3;simp[this]
 . have:c.ts[r.a].k≠1:=λhk=>(hT.wrd _ (Vp h) hk).2 h3;simp[this]
 . simp[hs]
theorem QeT {q q':Ex×Rd} (Z:closed H) (hj:j<H.length) (he:q.2.e=0) (hq:Qe q q') (L:ZI):Qdw H.length (PdP c H j q') (.agg q.1.c) (H.set j (ae c q.2)++L) :=
 ⟨_,_,PdV.eqv hq (PdP.ret he rfl),Qq 3 (QbQ (c:=c) (a:=q.2.a) (v:=q.2.v) Z) (by simp) (by simp[Ex.v])⟩
theorem Qc3 {q q':Ex×Rd} {n0:Nat} {H':ZI} (he:q.2.e≠0) (hq:Qe q q') (hk:Qu H [j] H'):∃ y H'',PdP c H j q' (.pan y) H''/\Cv n0 (QZ q.2.e q.2.p) H' y H'' :=
 ⟨_,_,PdV.eqv hq (PdP.pan he hk),Qi⟩
theorem QoK {s:ZG} {L:ZI} (ho:H[j]? = some (ae c r)) (hj:j<H.length) (hp:Qd c s r=false):(H++L).set j (ae c (Qab c s r))=H++L:=by
 rw[Qab,Zq (by simp[hp])];exact QcZ (by rw[Vc hj]; exact ho)
theorem QCt (hT:Qfi c) (hct:c.ts.length<4611686018427387904) {d:Nat} (hd:d<=40) {orP facP:Rd->Ex×Rd} (hF:∀ d',d=d'+1->PdC c 32 [] orP d') (hk:∀ d',d=d'+1->Kp c d' orP) (hP:∀ d',d=d'+1->PdC c 136 [] facP d') :
 PdC c 136 [] (QC c orP facP) d:=by
 intro H j r ho hg he;have hn:=hT.num;have hj:=Qk ho;have hoL:∀ L,(H++L)[j]? = some (ae c r):=λL=>by rw[Vc hj]; exact ho
 have h91:=λL=>QgH (hoL L);have hlen:=hg.a;refine QaY Go.Proofs.YtmkdpmfhlfhjkaaGreatDoor.hm Tryz.func136 c136 (by simp[rp]) λZ => ?_;simp -implicitDefEqProofs[i136,r136,rp];refine Qb (by simpa[rp]using h91 _) ?_;simp -implicitDefEqProofs;have h93:=Qf9 (H:=H++[zO,⟨[st (B [45])],9,0,true⟩]) (c:=c) (r:=r) (j:=j) (hoL _) (x:=.own (H.length+1) 0 1 1 0) (l:=[[45]]) (IsS.own1 (k:=1) rfl rfl) (by decide);rw[QhZ hn rfl he]at h93;refine Qb (by simpa[rp,zO]using h93) ?_;by_cases hp:Qd c [45] r=true
 . have hfac:Qe (Qeg c 3 facP r) (QC c orP facP r):=by
    unfold QC;rw[Zq (by simp[he]),Zq (by simp[Qjz hT hp (.inl rfl)]),Zr hp];have:=QrT (c:=c) (op:=3) (F:=facP) he hp;by_cases hv:r.v=40
    . have ho:=Qlm he hp hv;rw[Zr (by rw[ho.1]; decide)]at this ⊢;exact this
    . rw[Qmj hp hv]at this ⊢;exact this
   have hc:=λL=>Qr9 (H:=H++L) hct (Iv:=λ_=>True) (λ_ _ _ _ _=>trivial) hd (F:=facP) (f:=.fn (.func 136) [rp j] []) rfl rfl (by simp[rp,SV.under,SV.underL]; omega)
    (λd' hd' G r _ hG hg he=>QiW (a:=[rp j]) (b:=[]) (by simpa using hP d' hd' hG hg he)) trivial (hoL L) hg he (QaP hp) 3
   generalize Qeg c 3 facP r=q at hfac hc;simp -implicitDefEqProofs[hp];refine QQ (by simpa[rp]using hc _) ?_;intro o H' hp2;unfold PdP PdV at hp2;by_cases ah:q.2.e=0
   . rw[Zr ah]at hp2;obtain⟨rfl,rfl⟩:=hp2;rw[Vn _ _ hj];simp -implicitDefEqProofs[Ex.v];exact QeT Z hj ah hfac _
   . rw[Zq ah]at hp2;obtain⟨rfl,hk⟩:=hp2;simp -implicitDefEqProofs;exact Qc3 ah hfac hk.of_app
 rw[Vm]at hp;simp -implicitDefEqProofs[hp];have h93:=Qf9 (H:=H++[zO,⟨[st (B [45])],9,0,true⟩,⟨[st (B [40])],9,0,true⟩]) (c:=c) (r:=r) (j:=j) (hoL _) (x:=.own (H.length+2) 0 1 1 0) (l:=[[40]]) (IsS.own1 (k:=2) rfl rfl) (by decide);rw[QhZ hn rfl he]at h93;refine Qb (by simpa[rp,zO]using h93) ?_;by_cases hp2:Qd c [40] r=true
 . have hfac:=QzJ (c:=c) (orP:=orP) he hp2;have hfe:QC c orP facP r=(if(QA c [40] r).2.e≠0 then(zE,(QA c [40] r).2)else((orP (QA c [40] r).2).1,dnR (Qj c [41] (orP (QA c [40] r).2).2).2)):=by
    unfold QC;rw[Zq (by simp[he]),Zq (by simp[Qjz hT hp2 (.inr (.inl rfl))]),Zq (by simp[hp]),Zr hp2]
   rw[<-hfe]at hfac;have hc:=λL=>QjE hn hct hd (m:=0) hF hk (by decide) (hoL L) hg he;have h1x:(QcL c orP 0 r).2.e=0->∃ x,(QcL c orP 0 r).1=[x]:=by
    unfold QcL;rw[Zr hp2];by_cases hv:r.v=40
    . rw[Zr hv]; intro h; simp[Qg,av,he]at h
    . rw[Zq hv]; intro _; exact⟨_,rfl⟩
   simp -implicitDefEqProofs[hp2];generalize QcL c orP 0 r=q at hfac hc h1x;refine QQ (by simpa[rp,zO]using hc _) ?_;intro o H' hq;unfold PdV at hq;obtain⟨l,r2⟩:=q;simp only at hq hfac;by_cases ah:r2.e=0
   . rw[Zr ah]at hq;obtain⟨rfl,rfl⟩:=hq;rw[Vn _ _ hj];obtain⟨x,hx⟩:=h1x ah;simp only at hx;subst hx;simp -implicitDefEqProofs[Ex.cL];exact QeT (q:=(x,r2)) Z hj ah hfac _
   . rw[Zq ah]at hq;obtain⟨rfl,hk⟩:=hq;simp -implicitDefEqProofs;exact Qc3 (q:=(l.headD zE,r2)) ah hfac hk.of_app
 rw[Vm]at hp2;simp -implicitDefEqProofs[hp2];have h90:=QdH hn (hoL [zO,⟨[st (B [45])],9,0,true⟩,⟨[st (B [40])],9,0,true⟩]) (by omega) he (s:=[109,105,110]) rfl;refine Qb (by simpa[rp,zO]using h90) ?_;by_cases hp3:Qd c [109,105,110] r=true
 . have ha:Qab c [109,105,110] r=Qa r:=by rw[Qab,Zr hp3]
   have ht:(Qj c [109,105,110] r).2=Qa r:=by simp[Qj,hp3]
   have hfac:=QoT (c:=c) (orP:=orP) (s:=[109,105,110]) (op:=18) (p:=Qm c r) (m:=1) (r:=r) (by rw[ht]; exact he);have hfe:QC c orP facP r=Qcm c orP [109,105,110] 18 1 (Qm c r) r:=by
    unfold QC;rw[Zq (by simp[he]),Zq (by simp[Qjz hT hp3 (.inr (.inr (by decide)))]),Zq (by simp[hp]),Zq (by simp[hp2])];simp[Qan,hp3]
   rw[ht,<- hfe]at hfac;rw[ha,Vn _ _ hj];have hG2:∀ L,(H.set j (ae c (Qa r))++L)[j]? = some (ae c (Qa r)):=λL=>by rw[Vc (by simpa using hj)]; simp[hj]
   have hc:=λL=>QjE hn hct hd (m:=1) hF hk (by decide) (hG2 L) (hg.next (QaP hp3)) he
   simp -implicitDefEqProofs[hp3];generalize QcL c orP 1 (Qa r)=q at hfac hc;refine QQ (by simpa[rp,zO]using hc _) ?_;intro o H' hq;unfold PdV at hq;obtain⟨l,r2⟩:=q;simp only at hq hfac;by_cases ah:r2.e=0
   . rw[Zr ah]at hq;obtain⟨rfl,rfl⟩:=hq;rw[Vn _ _ (by simpa using hj),VF];simp -implicitDefEqProofs;refine⟨_,_,PdV.eqv hfac (PdP.ret (q:=(.mk 18 0 [] l (Qm c r),r2)) ah rfl),Qq 3 (QbQ (c:=c) (a:=r2.a) (v:=r2.v) Z) (by simp) (by simp[Ex.v,Ex.c])⟩
   . rw[Zq ah]at hq;obtain⟨rfl,hk⟩:=hq;simp -implicitDefEqProofs;exact Qc3 (q:=(.mk 18 0 [] l (Qm c r),r2)) ah hfac hk.of_set
 rw[Vm]at hp3;rw[QoK ho hj hp3];simp -implicitDefEqProofs[hp3];have h90:=QdH hn (hoL [zO,⟨[st (B [45])],9,0,true⟩,⟨[st (B [40])],9,0,true⟩]) (by omega) he (s:=[109,97,120]) rfl;refine Qb (by simpa[rp,zO]using h90) ?_;by_cases hp4:Qd c [109,97,120] r=true
 . have ha:Qab c [109,97,120] r=Qa r:=by rw[Qab,Zr hp4]
   have ht:(Qj c [109,97,120] r).2=Qa r:=by simp[Qj,hp4]
   have hfac:=QoT (c:=c) (orP:=orP) (s:=[109,97,120]) (op:=19) (p:=Qm c r) (m:=1) (r:=r) (by rw[ht]; exact he);have hfe:QC c orP facP r=Qcm c orP [109,97,120] 19 1 (Qm c r) r:=by
    unfold QC;rw[Zq (by simp[he]),Zq (by simp[Qjz hT hp4 (.inr (.inr (by decide)))]),Zq (by simp[hp]),Zq (by simp[hp2])];simp[Qan,hp4,hp3]
   rw[ht,<- hfe]at hfac;rw[ha,Vn _ _ hj];have hG2:∀ L,(H.set j (ae c (Qa r))++L)[j]? = some (ae c (Qa r)):=λL=>by rw[Vc (by simpa using hj)]; simp[hj]
   have hc:=λL=>QjE hn hct hd (m:=1) hF hk (by decide) (hG2 L) (hg.next (QaP hp4)) he
   simp -implicitDefEqProofs[hp4];generalize QcL c orP 1 (Qa r)=q at hfac hc;refine QQ (by simpa[rp,zO]using hc _) ?_;intro o H' hq;unfold PdV at hq;obtain⟨l,r2⟩:=q;simp only at hq hfac;by_cases ah:r2.e=0
   . rw[Zr ah]at hq;obtain⟨rfl,rfl⟩:=hq;rw[Vn _ _ (by simpa using hj),VF];simp -implicitDefEqProofs;refine⟨_,_,PdV.eqv hfac (PdP.ret (q:=(.mk 19 0 [] l (Qm c r),r2)) ah rfl),Qq 3 (QbQ (c:=c) (a:=r2.a) (v:=r2.v) Z) (by simp) (by simp[Ex.v,Ex.c])⟩
   . rw[Zq ah]at hq;obtain⟨rfl,hk⟩:=hq;simp -implicitDefEqProofs;exact Qc3 (q:=(.mk 19 0 [] l (Qm c r),r2)) ah hfac hk.of_set
 rw[Vm]at hp4;rw[QoK ho hj hp4];simp -implicitDefEqProofs[hp4];have h90:=QdH hn (hoL [zO,⟨[st (B [45])],9,0,true⟩,⟨[st (B [40])],9,0,true⟩]) (by omega) he (s:=[105,102]) rfl;refine Qb (by simpa[rp,zO]using h90) ?_;by_cases hp5:Qd c [105,102] r=true
 . have ha:Qab c [105,102] r=Qa r:=by rw[Qab,Zr hp5]
   have ht:(Qj c [105,102] r).2=Qa r:=by simp[Qj,hp5]
   have hfac:=QoT (c:=c) (orP:=orP) (s:=[105,102]) (op:=20) (p:=Qm c r) (m:=2) (r:=r) (by rw[ht]; exact he);have hfe:QC c orP facP r=Qcm c orP [105,102] 20 2 (Qm c r) r:=by
    unfold QC;rw[Zq (by simp[he]),Zq (by simp[Qjz hT hp5 (.inr (.inr (by decide)))]),Zq (by simp[hp]),Zq (by simp[hp2])];simp[Qan,hp5,hp3,hp4]
   rw[ht,<- hfe]at hfac;rw[ha,Vn _ _ hj];have hG2:∀ L,(H.set j (ae c (Qa r))++L)[j]? = some (ae c (Qa r)):=λL=>by rw[Vc (by simpa using hj)]; simp[hj]
   have hc:=λL=>QjE hn hct hd (m:=2) hF hk (by decide) (hG2 L) (hg.next (QaP hp5)) he
   simp -implicitDefEqProofs[hp5];generalize QcL c orP 2 (Qa r)=q at hfac hc;refine QQ (by simpa[rp,zO]using hc _) ?_;intro o H' hq;unfold PdV at hq;obtain⟨l,r2⟩:=q;simp only at hq hfac;by_cases ah:r2.e=0
   . rw[Zr ah]at hq;obtain⟨rfl,rfl⟩:=hq;rw[Vn _ _ (by simpa using hj),VF];simp -implicitDefEqProofs;refine⟨_,_,PdV.eqv hfac (PdP.ret (q:=(.mk 20 0 [] l (Qm c r),r2)) ah rfl),Qq 3 (QbQ (c:=c) (a:=r2.a) (v:=r2.v) Z) (by simp) (by simp[Ex.v,Ex.c])⟩
   . rw[Zq ah]at hq;obtain⟨rfl,hk⟩:=hq;simp -implicitDefEqProofs;exact Qc3 (q:=(.mk 20 0 [] l (Qm c r),r2)) ah hfac hk.of_set
 rw[Vm]at hp5;rw[QoK ho hj hp5];simp -implicitDefEqProofs[hp5];have h139:=λL=>Qex (hoL L);have h140:=λL=>Qgy (hoL L) (by omega);have h92:=λL=>QhS (hoL L) he;have h79:=λL=>Qdk (hoL L) 11;have hfw:Qan.find? (λw=>Qd c w.1 r)=none:=by simp[Qan,hp3,hp4,hp5]
 refine Qb (by simpa[rp,zO]using h139 _) ?_;by_cases hk2:(tkR c r).k=2
 . have hfr:QV c r=false:=by rw[Qnb he,hk2]; rfl
   have hnm:Qbb c r=true:=by rw[QkW he,hk2]; rfl
   obtain⟨_,hlt,_⟩:=QcV hnm;have hfe:QC c orP facP r=(.mk 1 (tkR c r).n [] [] (Qm c r),Qa r):=by
    unfold QC;rw[Zq (by simp[he]),Zq (by simp[hfr]),Zq (by simp[hp]),Zq (by simp[hp2]),hfw];simp only[nmR,hnm,Zv];simp[tkR,hlt]
   simp -implicitDefEqProofs[Tok.v,Tok.c,hk2];refine Qb (by simpa[rp,zO]using h140 _) ?_;rw[Vn _ _ hj];simp -implicitDefEqProofs[Tok.v,Tok.c];rw[hfe];exact⟨rfl,_,_,PdP.ret (q:=(.mk 1 (tkR c r).n [] [] (Qm c r),Qa r)) he rfl,Qs8 (QbQ (c:=c) (a:=r.a+1) (v:=r.v) Z) _ _ _ _ _⟩
 . have hnm:Qbb c r=false:=by rw[QkW he]; simp[hk2]
   simp -implicitDefEqProofs[Tok.v,Tok.c,hk2];refine Qb (by simpa[rp,zO]using h92 _) ?_;by_cases hfr:QV c r=true
   . have hlt:r.a<c.ts.length:=(QcV hfr).2.1;have hfe:QC c orP facP r=(.mk 2 0 (tkR c r).tx [] (Qm c r),Qa r):=by
      unfold QC;rw[Zq (by simp[he]),Zr hfr];simp only[QX,hfr,Zv];simp[tkR,hlt]
     simp -implicitDefEqProofs[hfr];refine Qb (by simpa[rp,zO]using h140 _) ?_;rw[Vn _ _ hj];simp -implicitDefEqProofs[Tok.v,Tok.c];rw[hfe];exact⟨rfl,_,_,PdP.ret (q:=(.mk 2 0 (tkR c r).tx [] (Qm c r),Qa r)) he rfl,Qs8 (QbQ (c:=c) (a:=r.a+1) (v:=r.v) Z) _ _ _ _ _⟩
   . rw[Vm]at hfr;have hfe:(QC c orP facP r).2=Qg c 11 r:=by
      unfold QC;rw[Zq (by simp[he]),Zq (by simp[hfr]),Zq (by simp[hp]),Zq (by simp[hp2]),hfw];simp[nmR,hnm]
     have hf2:(Qg c 11 r).e=11/\(Qg c 11 r).p=Qm c r:=by simp[Qg,he]
     simp -implicitDefEqProofs[hfr];refine Qb (by simpa[rp,zO]using h79 _) ?_;simp -implicitDefEqProofs;refine⟨_,_,?_,Qi⟩;unfold PdP PdV;rw[hfe,Zq (by rw[hf2.1]; decide),hf2.1,hf2.2];exact⟨rfl,Qu.of_app (Qu.refl _ _)⟩
end
def Qck:Nat->List (ZG×Int)
 |0=>orO
 |1=>QaU
 |2=>QaJ
 |3=>QaZ
 |_=>QaV
def bxO (j:Nat):AO:=⟨[rp j],62,0,true⟩
theorem Quv:∀ k,(Qck k).all (λo=>Qdc o.1)=true
 |0=>rfl
 |1=>rfl
 |2=>rfl
 |3=>rfl
 |_+4=>rfl
theorem Qu0 {c:Cx} {a:Nat} {v:Int} {k:Nat} (hk:k<5):(pdC c a v)[3+k]? = some (mpS (Qck k)):=by
 match k,hk with
 |0,_=>rfl
 |1,_=>rfl
 |2,_=>rfl
 |3,_=>rfl
 |4,_=>rfl
theorem QhL {c:Cx} {a:Nat} {v:Int}:(pdC c a v).length=9:=rfl
theorem Qkk (aa:List (ZG×Int)):(mpS aa).ug=mpS aa:=rfl
theorem Qmh (aa:List (ZG×Int)):(mpS aa).vd=true:=rfl
theorem Qlo (G:ZI) (aa:List (ZG×Int)):(mpS aa).mapOf G=some (mpK aa,mpV aa):=rfl
theorem QkR (aa:List (ZG×Int)):(mpK aa).all KK.s.is=true:=by
 rw[Vi];intro v hv;simp only[mpK,VC]at hv;obtain⟨o,_,rfl⟩:=hv;rfl
theorem Qgc (b:ByteArray):SV.key KK.s (st b)=.string b:=rfl
theorem Qjp (b:ByteArray):SV.isK KK.s (st b)=true:=rfl
theorem Qnh {c:Cx} {aa:List (ZG×Int)} {F:Rd->Ex×Rd} {n:Nat} {e:Ex} {r:Rd} (h:r.e≠0):Qa4 c aa F n e r=(e,r):=by
 cases n with
 |zero=>rfl
 |succ n =>
  have:QaH c aa r=none:=by
   cases ho:QaH c aa r with
   |none=>rfl
   |some op=>exact absurd (QdY ho).1 h
  rw[Qa4,this]
section
variable {H:ZI} {c:Cx} {r:Rd} {j:Nat}
theorem QBq (hT:Qfi c) (hct:c.ts.length<4611686018427387904) (hj:j<H.length) (Z:closed H) {k:Nat} (hk5:k<5) (hk2:k≠2) {d:Nat} {F:Rd->Ex×Rd} (hF:PdC c 80 [V ((k:Int)+1)] F d) (hk:Kp c d F) {N:Nat} {K:ZH} {res:Ex×Rd}
 (hret:res.2.e=0->∀ U M,U.get 4=rp (H.length+1)->K .ret U (H.set j (ae c res.2)++bxO j::eO res.1::eO res.1::M))
 (hpan:res.2.e≠0->∀ U H',Qu H [j] H'->K (.panic (QZ res.2.e res.2.p)) U H') :
 ∀ (n:Nat) (e:Ex) (r:Rd) (M:ZI) (U:Env),c.ts.length<=r.a+n->Qa4 c (Qck k) F n e r=res->Gd c d r->r.e=0->U.get 1=V k->U.get 2=rp H.length->U.get 4=rp (H.length+1)->U.get 5=rp (H.length+2) ->
  LI Tryz.prog N Qf Qha U (H.set j (ae c r)++bxO j::zO::eO e::M) K:=by
 have hkk:(k:Int)<5:=by omega
 have hk2':¬ (k:Int)=2:=by omega
 have wk:IntKind.i64.wrap ((k:Int)+1)=(k:Int)+1:=Qam (by omega) (by omega);have none_:∀ (e:Ex) (r:Rd) (M:ZI) (U:Env),QaH c (Qck k) r=none->(e,r)=res->Gd c d r->r.e=0->U.get 1=V k->U.get 2=rp H.length->U.get 4=rp (H.length+1)->U.get 5=rp (H.length+2) ->
  LI Tryz.prog N Qf Qha U (H.set j (ae c r)++bxO j::zO::eO e::M) K:=by
  intro e r M U ho hr hg he h1 h2 h4 h5;refine Qp hm Qha.eq_1 ?_;have e3:∀ L,Qo (H.set j (ae c r)++L) j 0=pdC c r.a r.v:=λL=>ocL (H:=H) hj _ 127 L;have hpa:=Qu0 (c:=c) (a:=r.a) (v:=r.v) hk5;have hG:∀ L,(H.set j (ae c r)++L)[j]? = some (ae c r):=λL=>by rw[Vc (by simpa using hj)]; simp[hj]
  have h139:=λL=>Qex (hG L);simp -implicitDefEqProofs[h1,h2,h4,h5,rp,bxO,zO,eO,e3,hpa,QhL,Qkk,Qmh,Qlo,QkR];refine⟨by omega,by omega,?_⟩;refine Qfn (λ_=>by simpa[rp]using h139 _) ?_;have hlk:lkm (.string (B (tkR c r).tx)) (mpK (Qck k)) (mpV (Qck k))=(QaH c (Qck k) r).map V:=by
   rw[Qkm,Qmn hT.num he (Quv k),Y4]; rfl
  rw[ho]at hlk;subst hr;simp -implicitDefEqProofs[Tok.v,Tok.c,Qgc,Qjp,hlk];exact hret he _ M (by simp[rp])
 intro n
 induction n with
 |zero =>
  intro e r M U hn hr hg he h1 h2 h4 h5;have ho:QaH c (Qck k) r=none:=by
   cases ho:QaH c (Qck k) r with
   |none=>rfl
   |some op=>have:=(QdY ho).2; omega
  exact none_ e r M U ho hr hg he h1 h2 h4 h5
 |succ n ih =>
  intro e r M U hn hr hg he h1 h2 h4 h5;rw[Qa4]at hr
  cases ho:QaH c (Qck k) r with
  |none =>
   rw[ho]at hr;exact none_ e r M U ho hr hg he h1 h2 h4 h5
  |some op =>
   refine Qp hm Qha.eq_1 ?_;have e3:∀ L,Qo (H.set j (ae c r)++L) j 0=pdC c r.a r.v:=λL=>ocL (H:=H) hj _ 127 L;have hpa:=Qu0 (c:=c) (a:=r.a) (v:=r.v) hk5;have hG:∀ L,(H.set j (ae c r)++L)[j]? = some (ae c r):=λL=>by rw[Vc (by simpa using hj)]; simp[hj]
   have h139:=λL=>Qex (hG L);simp -implicitDefEqProofs[h1,h2,h4,h5,rp,bxO,zO,eO,e3,hpa,QhL,Qkk,Qmh,Qlo,QkR];refine⟨by omega,by omega,?_⟩;refine Qfn (λ_=>by simpa[rp]using h139 _) ?_;have hlk:lkm (.string (B (tkR c r).tx)) (mpK (Qck k)) (mpV (Qck k))=(QaH c (Qck k) r).map V:=by
    rw[Qkm,Qmn hT.num he (Quv k),Y4]; rfl
   rw[ho]at hlk hr;obtain⟨_,hlt⟩:=QdY ho;have h91:=λL=>QgH (hG L);have h140:=λL=>Qgy (hG L) (by omega);have hg2:=hg.next hlt
   have hG2:∀ L,(H.set j (ae c (Qa r))++L)[j]? = some (ae c (Qa r)):=λL=>by rw[Vc (by simpa using hj)]; simp[hj]
   have hc:=λL=>hF (hG2 L) hg2 he;obtain⟨k1,k2⟩:=hk _ hg2;simp -implicitDefEqProofs[Tok.v,Tok.c,Qgc,Qjp,hlk];refine Qb (by simpa[rp]using h91 _) ?_;simp -implicitDefEqProofs[Tok.v,Tok.c,Qgc,hlk];refine Qb (by simpa[rp]using h140 _) ?_;rw[Vn _ _ (by simpa using hj),VF];simp -implicitDefEqProofs[wk,Tok.v,Tok.c,Qgc,hlk];refine QQ (by simpa[rp]using hc _) ?_;intro o H' hp;unfold PdP PdV at hp;generalize F (Qa r)=q at hr hp k1 k2;obtain⟨x,r2⟩:=q;simp only at hr hp k1 k2;by_cases ah:r2.e=0
   . rw[Zr ah]at hp;obtain⟨rfl,rfl⟩:=hp;rw[Vn _ _ (by simpa using hj),VF];simp -implicitDefEqProofs[Ex.v,hk2',Tok.v,Tok.c,Qgc,hlk];have hcl2:closed (H.set j (ae c r2)):=QbQ (c:=c) (a:=r2.a) (v:=r2.v) Z;have hlen:(H.set j (ae c r2)).length=H.length:=by simp
     refine LI.tell (Qat.give (H0:=H.set j (ae c r2)) (L:=bxO j::zO::⟨[V op,V 0,st ⟨#[]⟩,.own (H.length+(M.length+3)) 0 2 5 0,V (Qm c r)],25,0,true⟩::(M++[⟨e.c++x.c,25,0,true⟩])) hcl2 (M.length+3) 1 (o:=⟨e.c++x.c,25,0,true⟩) (by simp) rfl) ?_;rw[hlen];refine LI.cong (H':=H.set j (ae c r2)++bxO j::zO::eO (.mk op 0 [] [e,x] (Qm c r))::(M++[AO.dead ⟨e.c++x.c,25,0,true⟩]).map (AO.gv (H.length+(M.length+3)) 0 (e.c++x.c) 1)) ?_ (ih _ _ _ _ (by have:(Qa r).a=r.a+1:=rfl; omega) hr k1 ah ?_ ?_ ?_ ?_)
     . simp[bxO,zO,eO,AO.gv,rp,Ex.c,Ex.cL,AO.dead,show List.take 10 (e.c++x.c)=e.c++x.c from VD (by simp)]
     all_goals rw[Qsi _ (SV.gv _ _ _ _) (Qts _ _ _ _)]; simp[rp]
   . rw[Zq ah]at hp;obtain⟨rfl,hk⟩:=hp;simp -implicitDefEqProofs;rw[Qnh ah]at hr;subst hr;exact hpan ah _ _ hk.of_set
theorem Qln (hT:Qfi c) (hct:c.ts.length<4611686018427387904) {k:Nat} (hk5:k<5) (hk2:k≠2) {d:Nat} {F:Rd->Ex×Rd} (hF:PdC c 80 [V ((k:Int)+1)] F d) (hk:Kp c d F):PdC c 80 [V k] (Q0 c (Qck k) F) d:=by
 intro H j r ho hg he;have hj:=Qk ho;have hkk:¬ (k:Int)=5:=by omega
 have hk2':¬ (k:Int)=2:=by omega
 have wk:IntKind.i64.wrap ((k:Int)+1)=(k:Int)+1:=Qam (by omega) (by omega);have hoL:∀ L,(H++L)[j]? = some (ae c r):=λL=>by rw[Vc hj]; exact ho
 have hc:=λL=>hF (hoL L) hg he;obtain⟨k1,k2⟩:=hk _ hg;refine QaY hm Tryz.func80 c80 (by simp[rp]) λZ => ?_;simp -implicitDefEqProofs[i80,r80,rp,hkk,hk2'];refine Qcf _ _ _ _ ?_;simp -implicitDefEqProofs[wk];refine QQ (by simpa[rp]using hc _) ?_;intro o H' hp;unfold PdP PdV at hp;have hbd:Q0 c (Qck k) F r=Qa4 c (Qck k) F c.ts.length (F r).1 (F r).2:=rfl;rw[hbd];generalize F r=q at hp k1 k2 ⊢;obtain⟨x,r2⟩:=q;simp only at hp k1 k2 ⊢;by_cases ah:r2.e=0
 . rw[Zr ah]at hp;obtain⟨rfl,rfl⟩:=hp;rw[Vn _ _ hj];simp -implicitDefEqProofs[Ex.v];generalize ag:Qa4 c (Qck k) F c.ts.length x r2=res;refine LI.cong (H':=H.set j (ae c r2)++bxO j::zO::eO x::[]) (by simp[bxO,zO,eO,rp]) ?_;refine QBq hT hct hj Z hk5 hk2 hF hk (res:=res) (λhe3 U M h4 => ?_) (λhe3 U H' hk => ?_) c.ts.length x r2 [] _ (by omega) ag k1 ah ?_ ?_ ?_ ?_
   . simp -implicitDefEqProofs[h4,rp,eO];exact QeT Z hj he3 (.inl ⟨he3,rfl⟩) _
   . simp -implicitDefEqProofs;exact Qc3 he3 (.inr ⟨he3,rfl,rfl⟩) hk
   all_goals simp[rp]
 . rw[Zq ah]at hp;obtain⟨rfl,hk⟩:=hp;simp -implicitDefEqProofs;rw[Qnh ah];exact Qc3 (q:=(x,r2)) ah (.inr ⟨ah,rfl,rfl⟩) hk.of_app
theorem QCw {d:Nat} {F:Rd->Ex×Rd} (hF:PdC c 136 [] F d):PdC c 80 [V 5] F d:=by
 intro H j r ho hg he;have hj:=Qk ho;have hoL:∀ L,(H++L)[j]? = some (ae c r):=λL=>by rw[Vc hj]; exact ho
 have hc:=λL=>hF (hoL L) hg he;refine QaY hm Tryz.func80 c80 (by simp[rp]) λZ => ?_;simp -implicitDefEqProofs[i80,r80,rp];refine QQ (by simpa[rp]using hc _) ?_;intro o H' hp;unfold PdP PdV at hp;generalize F r=q at hp ⊢;obtain⟨x,r2⟩:=q;simp only at hp ⊢;by_cases ah:r2.e=0
 . rw[Zr ah]at hp;obtain⟨rfl,rfl⟩:=hp;rw[Vn _ _ hj];simp -implicitDefEqProofs[Ex.v];exact QeT (q:=(x,r2)) Z hj ah (.inl ⟨ah,rfl⟩) _
 . rw[Zq ah]at hp;obtain⟨rfl,hk⟩:=hp;simp -implicitDefEqProofs;exact Qc3 (q:=(x,r2)) ah (.inr ⟨ah,rfl,rfl⟩) hk.of_app
theorem ok32 {d:Nat} {F:Rd->Ex×Rd} (hF:PdC c 80 [V 0] F d):PdC c 32 [] F d:=by
 intro H j r ho hg he;have hj:=Qk ho;have hoL:∀ L,(H++L)[j]? = some (ae c r):=λL=>by rw[Vc hj]; exact ho
 have hc:=λL=>hF (hoL L) hg he;refine QaY hm Tryz.func32 c32 (by simp[rp]) λZ => ?_;simp -implicitDefEqProofs[i32,r32,rp];refine QQ (by simpa[rp]using hc _) ?_;intro o H' hp;unfold PdP PdV at hp;generalize F r=q at hp ⊢;obtain⟨x,r2⟩:=q;simp only at hp ⊢;by_cases ah:r2.e=0
 . rw[Zr ah]at hp;obtain⟨rfl,rfl⟩:=hp;rw[Vn _ _ hj];simp -implicitDefEqProofs[Ex.v];exact QeT (q:=(x,r2)) Z hj ah (.inl ⟨ah,rfl⟩) _
 . rw[Zq ah]at hp;obtain⟨rfl,hk⟩:=hp;simp -implicitDefEqProofs;exact Qc3 (q:=(x,r2)) ah (.inr ⟨ah,rfl,rfl⟩) hk.of_app
theorem QyY {d:Nat} {F:Rd->Ex×Rd} (hF:PdC c 80 [V 2] F d) {q:Nat} (hq:H[q]? = some (bxO j)) (ho:H[j]? = some (ae c r)) (hg:Gd c d r) (he:r.e=0):OkP Tryz.prog 138 [rp q] H (PdP c H j (F r)):=by
 have hj:=Qk ho;have hqj:=Qk hq;have hoL:∀ L,(H++L)[j]? = some (ae c r):=λL=>by rw[Vc hj]; exact ho
 have hc:=λL=>hF (hoL L) hg he;have e1:∀ L,Qo (H++L) q 0=[rp j]:=λL=>Q7 (o:=bxO j) (by rw[Vc hqj]; exact hq) rfl;refine QaY hm Tryz.func138 c138 (by simp[rp]) λZ => ?_;simp -implicitDefEqProofs[i138,r138,rp,e1];refine QQ (by simpa[rp]using hc _) ?_;intro o H' hp;unfold PdP PdV at hp;generalize F r=q at hp ⊢;obtain⟨x,r2⟩:=q;simp only at hp ⊢;by_cases ah:r2.e=0
 . rw[Zr ah]at hp;obtain⟨rfl,rfl⟩:=hp;rw[Vn _ _ hj];simp -implicitDefEqProofs[Ex.v];exact QeT (q:=(x,r2)) Z hj ah (.inl ⟨ah,rfl⟩) _
 . rw[Zq ah]at hp;obtain⟨rfl,hk⟩:=hp;simp -implicitDefEqProofs;exact Qc3 (q:=(x,r2)) ah (.inr ⟨ah,rfl,rfl⟩) hk.of_app
end
section
variable {H:ZI} {c:Cx} {r:Rd} {j:Nat}
theorem QCv (hT:Qfi c) (hct:c.ts.length<4611686018427387904) {d:Nat} (hd:d<=40) {G ntP:Rd->Ex×Rd} (hG:PdC c 80 [V 3] G d) (hk:Kp c d G) (hnt:∀ d',d=d'+1->PdC c 80 [V 2] ntP d') :
 PdC c 80 [V 2] (Qal c (Qaz c G) ntP) d:=by
 intro H j r ho hg he;have hn:=hT.num;have w3:IntKind.i64.wrap 3=3:=by decide
 have hj:=Qk ho;have hoL:∀ L,(H++L)[j]? = some (ae c r):=λL=>by rw[Vc hj]; exact ho
 have h93:=Qf9 (H:=H++[bxO j,zO,⟨[st (B [110,111,116])],9,0,true⟩]) (c:=c) (r:=r) (j:=j) (hoL _) (x:=.own (H.length+2) 0 1 1 0) (l:=[[110,111,116]]) (IsS.own1 (k:=2) rfl rfl) (by decide);rw[QhZ hn rfl he]at h93;refine QaY hm Tryz.func80 c80 (by simp[rp]) λZ => ?_;simp -implicitDefEqProofs[i80,r80,rp];refine QL (r:=bl (Qd c [110,111,116] r)) (λ_=>by simpa[rp,zO,bxO,SV.strip]using h93) ?_;by_cases hp:Qd c [110,111,116] r=true
 . have hnot:Qe (Qeg c 4 ntP r) (Qal c (Qaz c G) ntP r):=by
    unfold Qal;rw[Zr hp];exact QrT he hp
   have hc:=λL=>Qr9 (H:=H++(bxO j::L)) hct (Iv:=λA=>A[H.length]? = some (bxO j)) (λA o L h hl=>by
    have h2:=Qk h;rw[Vc (by simpa using h2),Vg (by omega)]; exact h) hd (F:=ntP) (f:=.fn (.func 138) [] [rp H.length]) rfl rfl (by simp[rp,SV.under,SV.underL])
    (λd' hd' A r hA hG hg he=>QiW (a:=[]) (b:=[rp H.length]) (by simpa using QyY (hnt d' hd') hA hG hg he)) (by simp) (hoL (bxO j::L)) hg he (QaP hp) 4
   generalize Qeg c 4 ntP r=q at hnot hc;simp -implicitDefEqProofs[hp];refine QQ (by simpa[rp,zO,bxO]using hc _) ?_;intro o H' hp2;unfold PdP PdV at hp2;by_cases ah:q.2.e=0
   . rw[Zr ah]at hp2;obtain⟨rfl,rfl⟩:=hp2;rw[Vn _ _ hj];simp -implicitDefEqProofs[Ex.v];exact QeT Z hj ah hnot _
   . rw[Zq ah]at hp2;obtain⟨rfl,hk⟩:=hp2;simp -implicitDefEqProofs;exact Qc3 ah hnot hk.of_app
 . have hnot:Qal c (Qaz c G) ntP r=Qaz c G r:=by unfold Qal; rw[Zq hp]
   rw[Vm]at hp;rw[hnot];have hc:=λL=>hG (hoL L) hg he;obtain⟨k1,k2⟩:=hk _ hg;simp -implicitDefEqProofs[hp,w3];refine QQ (by simpa[rp]using hc _) ?_;intro o H' hp2;unfold PdP PdV at hp2;have hcm:Qaz c G r=match QaH c QaJ (G r).2 with
    |some op=>(.mk op 0 [] [(G r).1,(G (Qa (G r).2)).1] (Qm c (G r).2),(G (Qa (G r).2)).2)
    |none=>G r:=rfl
   rw[hcm];generalize G r=q at hp2 k1 k2 ⊢;obtain⟨x,r2⟩:=q;simp only at hp2 k1 k2 ⊢;by_cases ah:r2.e=0
   . rw[Zr ah]at hp2;obtain⟨rfl,rfl⟩:=hp2;rw[Vn _ _ hj];simp -implicitDefEqProofs[Ex.v];refine Qp hm Qha.eq_1 ?_;have e3:∀ L,Qo (H.set j (ae c r2)++L) j 0=pdC c r2.a r2.v:=λL=>ocL (H:=H) hj _ 127 L;have hpa:∀ h,(pdC c r2.a r2.v)[5]'(h)=mpS QaJ:=λ_=>rfl;have hG2:∀ L,(H.set j (ae c r2)++L)[j]? = some (ae c r2):=λL=>by rw[Vc (by simpa using hj)]; simp[hj]
     have h139:=λL=>Qex (hG2 L);have hlk:lkm (.string (B (tkR c r2).tx)) (mpK QaJ) (mpV QaJ)=(QaH c QaJ r2).map V:=by
      rw[Qkm,Qmn (aa:=QaJ) hT.num ah rfl,Y4]; rfl
     simp -implicitDefEqProofs[e3,hpa,QhL];refine Qfn (λ_=>by simpa[rp]using h139 _) ?_
     cases hop:QaH c QaJ r2 with
     |none =>
      rw[hop]at hlk;simp -implicitDefEqProofs[Tok.v,Tok.c,Qgc,Qjp,hlk,Qkk,Qmh,Qlo,QkR];exact QeT (q:=(x,r2)) Z hj ah (.inl ⟨ah,rfl⟩) _
     |some op =>
      rw[hop]at hlk;obtain⟨_,hlt⟩:=QdY hop;have h91:=λL=>QgH (hG2 L);have h140:=λL=>Qgy (hG2 L) (by omega);have hg2:=k1.next hlt
      have hG3:∀ L,(H.set j (ae c (Qa r2))++L)[j]? = some (ae c (Qa r2)):=λL=>by rw[Vc (by simpa using hj)]; simp[hj]
      have hc:=λL=>hG (hG3 L) hg2 ah;simp -implicitDefEqProofs[Tok.v,Tok.c,Qgc,Qjp,hlk,Qkk,Qmh,Qlo,QkR];refine Qb (by simpa[rp]using h91 _) ?_;simp -implicitDefEqProofs[Tok.v,Tok.c];refine Qb (by simpa[rp]using h140 _) ?_;rw[Vn _ _ (by simpa using hj),VF];simp -implicitDefEqProofs[Tok.v,Tok.c,w3];refine QQ (by simpa[rp]using hc _) ?_;intro o H' hp3;unfold PdP PdV at hp3;generalize G (Qa r2)=q at hp3 ⊢;obtain⟨y,r3⟩:=q;simp only at hp3 ⊢;by_cases he3:r3.e=0
      . rw[Zr he3]at hp3;obtain⟨rfl,rfl⟩:=hp3;rw[Vn _ _ (by simpa using hj),VF];simp -implicitDefEqProofs[Ex.v,Tok.v,Tok.c];refine⟨_,_,PdP.ret (q:=(.mk op 0 [] [x,y] (Qm c r2),r3)) he3 rfl,Qq 3 (QbQ (c:=c) (a:=r3.a) (v:=r3.v) Z) (by simp) ?_⟩;simp[Ex.v,Ex.c,Ex.cL,show List.take 10 (x.c++y.c)=x.c++y.c from VD (by simp)]
      . rw[Zq he3]at hp3;obtain⟨rfl,hk⟩:=hp3;simp -implicitDefEqProofs;exact Qc3 (q:=(.mk op 0 [] [x,y] (Qm c r2),r3)) he3 (.inr ⟨he3,rfl,rfl⟩) hk.of_set
   . rw[Zq ah]at hp2;obtain⟨rfl,hk⟩:=hp2;have ho:QaH c QaJ r2=none:=by
      cases ho:QaH c QaJ r2 with
      |none=>rfl
      |some op=>exact absurd (QdY ho).1 ah
     rw[ho];simp -implicitDefEqProofs;exact Qc3 (q:=(x,r2)) ah (.inr ⟨ah,rfl,rfl⟩) hk.of_app
theorem QtX (hT:Qfi c) (hct:c.ts.length<4611686018427387904):∀ d:Nat,d<=40->PdC c 136 [] (lv c d).fac d/\PdC c 80 [V 2] (lv c d).nt d/\PdC c 32 [] (QaT c (lv c d)) d:=by
 have step:∀ (d:Nat) (orP facP ntP:Rd->Ex×Rd),d<=40->(∀ d',d=d'+1->PdC c 32 [] orP d')->(∀ d',d=d'+1->Kp c d' orP)->(∀ d',d=d'+1->PdC c 136 [] facP d')->(∀ d',d=d'+1->Kp c d' facP)->(∀ d',d=d'+1->PdC c 80 [V 2] ntP d') ->
  (∀ d',d=d'+1->Kp c d' ntP)->PdC c 136 [] (lvS c orP facP ntP).fac d/\PdC c 80 [V 2] (lvS c orP facP ntP).nt d/\PdC c 32 [] (QaT c (lvS c orP facP ntP)) d:=by
  intro d orP facP ntP hd h1 h2 h3 h4 h5 h6;have hf:PdC c 136 [] (QC c orP facP) d:=QCt hT hct hd h1 h2 h3;have kf:Kp c d (QC c orP facP):=Qol hd h2 h4;have hm:PdC c 80 [V ((4:Nat):Int)] (Q0 c QaV (QC c orP facP)) d:=Qln hT hct (k:=4) (by decide) (by decide) (QCw hf) kf;have km:=QcS (aa:=QaV) kf;have hs:PdC c 80 [V ((3:Nat):Int)] (Q0 c QaZ (Q0 c QaV (QC c orP facP))) d:=Qln hT hct (k:=3) (by decide) (by decide) hm km;have ks:=QcS (aa:=QaZ) km;have hn:PdC c 80 [V 2] (Qal c (Qaz c (Q0 c QaZ (Q0 c QaV (QC c orP facP)))) ntP) d:=QCv hT hct hd hs ks h5;have kn:=QnH hd (Qmy ks) h6;have ha:PdC c 80 [V ((1:Nat):Int)] (Q0 c QaU (Qal c (Qaz c (Q0 c QaZ (Q0 c QaV (QC c orP facP)))) ntP)) d:=Qln hT hct (k:=1) (by decide) (by decide) hn kn;have ka:=QcS (aa:=QaU) kn;have ho:PdC c 80 [V ((0:Nat):Int)] (Q0 c orO (Q0 c QaU (Qal c (Qaz c (Q0 c QaZ (Q0 c QaV (QC c orP facP)))) ntP))) d:=Qln hT hct (k:=0) (by decide) (by decide) ha ka;exact⟨hf,hn,ok32 ho⟩
 intro d
 induction d with
 |zero=>exact λhd=>step 0 _ _ _ hd (λd' h=>by omega) (λd' h=>by omega) (λd' h=>by omega) (λd' h=>by omega) (λd' h=>by omega) (λd' h=>by omega)
 |succ d ih =>
  intro hd;obtain⟨i1,i2,i3⟩:=ih (by omega);obtain⟨k1,k2,k3⟩:=QfP c d (by omega);exact step (d+1) _ _ _ hd (λd' h=>by cases h; exact i3) (λd' h=>by cases h; exact k3) (λd' h=>by cases h; exact i1) (λd' h=>by cases h; exact k1) (λd' h=>by cases h; exact i2) (λd' h=>by cases h; exact k2)
end
end Go.Proofs.YtmkdpmfhlfhjkaaGreatDoor
