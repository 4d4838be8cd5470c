/-
  'parlour/..TrainParts' returns true for every input and leaves its arguments as they were; no condition.
-/
import Derived.Test.YtogjmpkehjfecaaGreatDoorPart6
import Derived.Test.YtogjmpkehjfecaaGreatDoorCards
import Derived.Test.YtogjmpkehjfecaaGreatDoorTie
set_option linter.all false
namespace Go.Proofs.YtogjmpkehjfecaaGreatDoor.trainParts
open Go.Ab Go.ChangeShapes Go.WideShapes Go.ChangeAt Go.RowKit
def shs : List Sh := [.sl (.int .i64), .int .i64, .int .i64, .int .i64]

theorem readable : ∀ t ∈ Tryz.f5.params.toList, Tryz.prog.readableRec t = true ∧ t < Tryz.prog.types.size := by
  have h : (Tryz.f5.params.toList.all fun t => Tryz.prog.readableRec t && decide (t < Tryz.prog.types.size)) = true := by kernel_rfl
  intro t ht
  have := List.all_eq_true.1 h t ht
  simpa using this
open Go.Proofs.YtogjmpkehjfecaaGreatDoor.Rc
theorem hok : ∀ dts, Sh.hasL shs dts → Ok Tryz.prog 5 (dts.map Dt.sv) [] (.ret (bl true)) [] := by
  intro dts hm
  obtain ⟨d0, m, rfl, h0, hm⟩ := hasL_cons hm
  obtain ⟨d1, m, rfl, h1, hm⟩ := hasL_cons hm
  obtain ⟨d2, m, rfl, h2, hm⟩ := hasL_cons hm
  obtain ⟨d3, m, rfl, h3, hm⟩ := hasL_cons hm
  obtain rfl := hasL_nil hm
  obtain ⟨l0, _, e0, b0, _⟩ := has_ints h0
  obtain ⟨n1, _, e1, _⟩ := has_i64 h1
  obtain ⟨n2, _, e2, _⟩ := has_i64 h2
  obtain ⟨n3, _, e3, _⟩ := has_i64 h3
  have hm : maxLen = 9223372036854775807 := by decide
  simp only [List.map_cons, List.map_nil, e0, e1, e2, e3]
  exact ok5 (by omega) n1 n2 n3

set_option maxRecDepth 100000 in
theorem lifted (os : Os) (started : os.Started) (H : Type) (enc : TypeId × Value → H) :
    ReturnsInHanded {} Tryz.checked os 5 .any (fun w args => (Rows.trainPartsSpec.pre enc Tryz.prog Tryz.f5 [] false w args ∧ laidMetH Tryz.prog laid3 w) ∧ sizedMet enc Tryz.prog Tryz.f5 (OpenSpec.ofChange Rows.trainPartsSpec) false w args)
      (Rows.trainPartsSpec.post enc Tryz.prog Tryz.f5 false true false false) := by
  refine returnsInHanded_of_change_and (C := Tryz.checked) (X := fun w _ => laidMetH Tryz.prog laid3 w) (fun _ _ _ hh h => h.of_heap hh) own started (by kernel_rfl) Tryz.func5
    (ChangeSpec.witness_shaped (enc := enc) (C := Tryz.checked) (os := os) (X := fun w _ => laidMetH Tryz.prog laid3 w) false (World.doorLaid Tryz.prog 400 os) #[.slice none 0 0, .int .i64 0, .int .i64 0, .int .i64 0] 8 rfl (World.shaped_of_RefB (by kernel_rfl) (by kernel_rfl)) (by kernel_rfl) (by kernel_rfl) (by kernel_rfl) (door_met os _)) ?_
  intro W base args ds gs before hval0 hW _ _ hL _
  exact law_contract (s := Rows.trainPartsSpec) shs (gl_of hL) laidOut (by kernel_rfl) (fun t ht => readable t ht) rfl (fun ds h => by
    match ds, h with
    | [d1, d2, d3, d4], _ => rfl) (tb := 4) (by kernel_rfl) Tryz.underlying4 hok args ds gs before hval0 hW

theorem over : Rows.trainPartsRow.holds Tryz.pinned (OpenSpec.ofChange Rows.trainPartsSpec) :=
  OpenClaim.holds_of_wide 5 Tryz.f5 rfl rfl rfl rfl rfl rfl rfl ⟨rfl, rfl, rfl, rfl, rfl⟩ rfl rfl rfl rfl rfl (by kernel_rfl) Tryz.func5 (by kernel_rfl)
    (of_decide_eq_true (by kernel_rfl)) (by unfold Func.isWrapper; first | (rw [if_pos (by decide +kernel)]; kernel_rfl) | (rw [if_neg (by decide +kernel)]; exact ⟨rfl, rfl⟩))
    (fun os started H enc _ => lifted os started H enc)

theorem proved : Rows.TrainPartsCardSaid :=
  Claim7.holds_tied_plain_at .later [] [.data] true (true, "5c5957da5c07c4906c7762e1a15bdd35dfdcdf6db3ac5ca0077f50193b48f0ef") true
    over (fun _ h => by cases h) (by kernel_rfl) (fun _ h => by cases h) trainParts_row_tie rfl ⟨rfl, rfl⟩ (by kernel_rfl) rfl
    (fun f fn hf hfn => by
      obtain rfl : f = 5 := Option.some.inj ((show Tryz.prog.funcNamed Rows.trainPartsRow.func = some 5 by kernel_rfl).symm.trans hf) |>.symm
      obtain rfl : fn = Tryz.f5 := (Option.some.inj (Tryz.func5.symm.trans hfn)).symm
      exact ⟨by kernel_rfl, fun j t ht => by
        have h : (Tryz.f5.params.toList.all fun t => !Tryz.prog.wantsStandIn t) = true := by kernel_rfl
        have := List.all_eq_true.1 h t (by rw [Array.mem_toList_iff]; exact Array.mem_of_getElem? ht)
        show Tryz.prog.wantsStandIn t = false
        simpa using this⟩)
    (by kernel_rfl)
end Go.Proofs.YtogjmpkehjfecaaGreatDoor.trainParts
