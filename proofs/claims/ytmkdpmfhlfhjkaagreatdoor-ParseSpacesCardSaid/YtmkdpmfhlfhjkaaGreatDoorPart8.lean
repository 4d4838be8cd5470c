/- Steps of the proof. -/
import Derived.Test.YtmkdpmfhlfhjkaaGreatDoorPart3
import Derived.Test.YtmkdpmfhlfhjkaaGreatDoorCore5
import Derived.LaidMore
import Derived.OpenShut
import Derived.Stop.Joined
import Derived.LaidHandle
import Derived.SevenTiedAt
import Derived.Test.YtmkdpmfhlfhjkaaGreatDoorCore4
import Derived.Test.YtmkdpmfhlfhjkaaGreatDoorPart4
set_option linter.all false
namespace Go.Proofs.YtmkdpmfhlfhjkaaGreatDoor
open Go.Ab Go.ChangeShapes Go.WideShapes Go.ChangeAt Go.RowKit
def laid3 : List (String × DataW Unit) := [("math/bits.deBruijn32tab", Rows.laid_math_bits_deBruijn32tab), ("math/bits.deBruijn64tab", Rows.laid_math_bits_deBruijn64tab), ("internal/strconv.uint64pow10", Rows.laid_internal_strconv_uint64pow10), ("errors.errorType", Rows.laid_errors_errorType), ("parlour/token.blanks", Rows.laid_parlour_token_blanks), ("parlour/token.signs", Rows.laid_parlour_token_signs)]
theorem own:ownKnob Tryz.prog.godebug=none:=by kernel_rfl
theorem laidOut:laidOutB Tryz.prog=true:=by kernel_rfl
theorem gB : Tryz.prog.globalNamed "parlour/token.blanks" = some 0 := by kernel_rfl
theorem gS : Tryz.prog.globalNamed "parlour/token.signs" = some 1 := by kernel_rfl
theorem gE : Tryz.prog.globalNamed "errors.errorType" = some 2 := by kernel_rfl
theorem gP : Tryz.prog.globalNamed "internal/strconv.uint64pow10" = some 3 := by kernel_rfl
theorem tP:(Tryz.prog.globals[3]?).map (·.type)=some 251:=by kernel_rfl
theorem uP:Tryz.prog.underlying 251=some (.array 20 242):=by kernel_rfl
theorem u64t:Tryz.prog.underlying 242=some (.int .u64):=by kernel_rfl
theorem pTab:(Rows.laid_internal_strconv_uint64pow10:DataW Unit)=Lib.tabData .u64 Lib.pow10Tab:=by kernel_rfl
theorem tB:(Tryz.prog.globals[0]?).map (·.type)=some 191:=by kernel_rfl
theorem tS:(Tryz.prog.globals[1]?).map (·.type)=some 192:=by kernel_rfl
theorem uB:Tryz.prog.underlying 191=some (.array 33 4):=by kernel_rfl
theorem uS:Tryz.prog.underlying 192=some (.array 126 4):=by kernel_rfl
theorem u4:Tryz.prog.underlying 4=some .bool:=by kernel_rfl
theorem rtE : (Tryz.prog.cutTypes.find? (·.1 == "internal/reflectlite.rtype")).map (·.2) = some 225 := by kernel_rfl
theorem size:Tryz.prog.types.size=285:=by kernel_rfl
theorem QyN:((List.range 285).filter λt=>Tryz.prog.rowNamed t [101,114,114,111,114])=[113]:=by kernel_rfl
theorem door_met (os:Os) (args:Array Value):laidMetH Tryz.prog laid3 ((World.doorLaid Tryz.prog 400 os).forCall (λ_ _=>0) ⟨#[],args,[]⟩).memory :=
 laidMetH_of_parts3 (fuel:=8) (laidMet_of_run' 8 (by kernel_rfl) (by kernel_rfl)) (by kernel_rfl) (by kernel_rfl)
theorem Qpk {P:ZL} {W:ZM} {base:Nat} {sp:Nat->Bool} {held:Bool} {fuel n:Nat} {t e:ZK} {cs:ZI} {bs:List Bool} {p:List MemPlace} {enc:ZK×Value->Unit} (ht:P.underlying t=some (.array n e)) (he:P.underlying e=some .bool) (hc:P.cellsOf e=1) (hct:P.cellsOf t=n)
 (h:DataW.trod enc P W base sp held fuel t cs=some (.agg (bs.map λb=>.lit (.bool b)),p)):cs=bs.map Value.bool:=by
 obtain⟨xs,m,rfl,hx,hlen,hn,hel⟩:=DataW.trod_array ht h;simp only[Prod.mk.injEq,DataW.agg.injEq]at hx;have hbl:bs.length=n:=by have:=Zp List.length hx.1; simp at this; omega
 rw[hct]at hlen;refine List.ext_getElem (by simp; omega) λi h1 h2 => ?_;have hi:i<n:=by omega
 have h3:=hel i hi;have hxi:i<xs.length:=by omega
 rw[Ve hxi,hc,Nat.mul_one]at h3;obtain⟨b,e1,e2⟩:=DataW.trod_bool he h3;have e3:cs[i]=.bool b:=by
  rw[VT h1,List.take_succ_cons,Yr]at e1;exact(List.cons.inj e1).1
 have hbi:i<bs.length:=by omega
 have e4:(bs.map λb=>(DataW.lit (.bool b):DataW Unit))[i]'(by simpa using hbi)=(xs.map (·.1))[i]'(by simpa using hxi):=by
  simp only[hx.1]
 simp only[List.getElem_map,e2]at e4;have:bs[i]=b:=by simpa using e4
 rw[e3,List.getElem_map,this]
theorem gl_of {W:ZM} (h:laidMetH Tryz.prog laid3 W):(st0 W).GL:=by
 have h' : laidMet Tryz.prog [("math/bits.deBruijn32tab", Rows.laid_math_bits_deBruijn32tab), ("math/bits.deBruijn64tab", Rows.laid_math_bits_deBruijn64tab), ("internal/strconv.uint64pow10", Rows.laid_internal_strconv_uint64pow10), ("parlour/token.blanks", Rows.laid_parlour_token_blanks), ("parlour/token.signs", Rows.laid_parlour_token_signs)] W /\ handlesMet Tryz.prog [("errors.errorType", Rows.laid_errors_errorType)] W := h
 obtain⟨⟨ps,⟨ga,ta,csa,fa,pa,qa,hga,hta,hva,hda,⟨gb,tb,csb,fb,pb,qb,hgb,htb,hvb,hdb,⟨gc,tc,csc,fc,pc,qc,hgc,htc,hvc,hdc,⟨g0,t0,cs0,f0,p0,q0,hg0,ht0,hv0,hd0,⟨g1,t1,cs1,f1,p1,q1,hg1,ht1,hv1,hd1,_,_⟩,_⟩,_⟩,_⟩,_⟩,_,_⟩,hh⟩:=h';obtain rfl:=Option.some.inj (gB.symm.trans hg0);obtain rfl:=Option.some.inj (gS.symm.trans hg1);obtain rfl:=Option.some.inj (tB.symm.trans ht0);obtain rfl:=Option.some.inj (tS.symm.trans ht1);have b0:cs0.toList=QgG.map Value.bool:=Qpk (bs:=QgG) uB u4 (by kernel_rfl) (by kernel_rfl) hd0;have b1:cs1.toList=Qgu.map Value.bool:=Qpk (bs:=Qgu) uS u4 (by kernel_rfl) (by kernel_rfl) hd1;obtain⟨name,u,ty,e1,e2,e3,e4,e5⟩:=hh _ (VU.2 rfl);have en:name=[101,114,114,111,114]:=(Option.some.inj e1).symm;subst en;obtain rfl:=Option.some.inj (rtE.symm.trans e2);have hm:ty∈(List.range 285).filter λt=>Tryz.prog.rowNamed t [101,114,114,111,114]:=V9.2 ⟨V2.2 (by rw[<-size]; exact e3),e4⟩;rw[QyN]at hm;obtain rfl:=VU.1 hm;have hh:typeHandle Tryz.prog 113=.pointer (some ⟨7,113,none⟩):=by kernel_rfl
 rw[hh]at e5;obtain rfl:=Option.some.inj (gP.symm.trans hgc);obtain rfl:=Option.some.inj (tP.symm.trans htc);have b3:csc.toList=Lib.pow10Tab.map λz=>Value.int .u64 z:=Lib.cells_of_tab (zs:=Lib.pow10Tab) uP u64t (by kernel_rfl) (by kernel_rfl) (by rw[<-pTab]; exact hdc);have shp:∀ (g:Nat) (nm:String) (cs:Array Value) (us:ZI),Tryz.prog.globalNamed nm=some g->W.var? Tryz.prog nm=some cs->cs.toList=us->∃ T,(st0 W).w.shape? g=some (T,us.length):=by
  intro g nm cs us h1 h2 h3;simp only[World.var?,h1,Option.bind_some]at h2;split at h2
  . rename_i cs' T f hh
    cases h2
    refine⟨T,?_⟩;show W.shape? g=_;unfold World.shape?;rw[hh,<- h3];simp
  . cases h2
 have key:∀ (g:Nat) (nm:String) (cs:Array Value) (us:ZI),Tryz.prog.globalNamed nm=some g->W.var? Tryz.prog nm=some cs->cs.toList=us->us.all QkO=true->(st0 W).Imm ⟨g,0,none⟩ us:=by
  intro g nm cs us h1 h2 h3 h4;refine⟨λj u hj => ?_,λ_=>rw0 W _,λ_ _=>.inr h4⟩;have:=World.var?_cell h1 h2 j;have e:((⟨g,0,none⟩:Addr).add j)=⟨g,j,none⟩:=by unfold Addr.add; split<;>simp_all
  rw[e];show W.cell? _=_;rw[this,<- YZ,h3]; exact hj
 intro g us hg
 match g,hg with
 |0,hg=>cases hg; exact⟨key 0 _ _ _ gB hv0 b0 (by decide),shp 0 _ _ _ gB hv0 b0⟩
 |1,hg=>cases hg; exact⟨key 1 _ _ _ gS hv1 b1 (by decide),shp 1 _ _ _ gS hv1 b1⟩
 |2,hg=>cases hg; exact⟨key 2 _ _ _ gE e5 rfl rfl,shp 2 _ _ _ gE e5 rfl⟩
 |3,hg=>cases hg; exact⟨key 3 _ _ _ gP hvc b3 (by decide),shp 3 _ _ _ gP hvc b3⟩
end Go.Proofs.YtmkdpmfhlfhjkaaGreatDoor
namespace Go.Proofs.YtmkdpmfhlfhjkaaGreatDoor
open Go Go.Ab
theorem u9:Tryz.prog.underlying 9=some .string:=by kernel_rfl
theorem Qz3 {d:Dt} (h:d.ty Tryz.prog 9):∃ s,d=.str s/\s.size<=reachBytes:=by
 cases d with
 |int k n=>have:=h.1; rw[u9]at this; cases this
 |bool b=>have h:Tryz.prog.underlying 9=_:=h; rw[u9]at h; cases h
 |str s=>exact⟨s,rfl,h.2⟩
 |sl l=>obtain⟨e,h,_⟩:=h; rw[u9]at h; cases h
 |agg l=>obtain⟨e,h,_⟩:=h; rw[u9]at h; cases h
end Go.Proofs.YtmkdpmfhlfhjkaaGreatDoor
