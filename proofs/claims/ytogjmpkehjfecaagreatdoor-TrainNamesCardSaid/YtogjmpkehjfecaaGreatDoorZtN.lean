/-
  'parlour/..TrainNames' returns true for every input and leaves its arguments as they were; no condition.
-/
import Derived.Test.YtogjmpkehjfecaaGreatDoorPart5
import Derived.Test.YtogjmpkehjfecaaGreatDoorCards
import Derived.Test.YtogjmpkehjfecaaGreatDoorTie
set_option linter.all false
namespace Go.Proofs.YtogjmpkehjfecaaGreatDoor.trainNames
open Go.Ab Go.ChangeShapes Go.WideShapes Go.ChangeAt Go.RowKit
def shs : List Sh := []

theorem readable : ∀ t ∈ Tryz.f3.params.toList, Tryz.prog.readableRec t = true ∧ t < Tryz.prog.types.size := by
  have h : (Tryz.f3.params.toList.all fun t => Tryz.prog.readableRec t && decide (t < Tryz.prog.types.size)) = true := by kernel_rfl
  intro t ht
  have := List.all_eq_true.1 h t ht
  simpa using this
open Go.Proofs.YtogjmpkehjfecaaGreatDoor.Rc
theorem hok : ∀ dts, Sh.hasL shs dts → Ok Tryz.prog 3 (dts.map Dt.sv) [] (.ret (bl true)) [] := by
  intro dts hm
  obtain rfl := hasL_nil hm
  exact ok3


set_option maxRecDepth 100000 in
theorem lifted (os : Os) (started : os.Started) (H : Type) (enc : TypeId × Value → H) :
    ReturnsInHanded {} Tryz.checked os 3 .any (fun w args => (Rows.trainNamesSpec.pre enc Tryz.prog Tryz.f3 [] false w args ∧ laidMetH Tryz.prog laid3 w) ∧ sizedMet enc Tryz.prog Tryz.f3 (OpenSpec.ofChange Rows.trainNamesSpec) false w args)
      (Rows.trainNamesSpec.post enc Tryz.prog Tryz.f3 false true false false) := by
  refine returnsInHanded_of_change_and (C := Tryz.checked) (X := fun w _ => laidMetH Tryz.prog laid3 w) (fun _ _ _ hh h => h.of_heap hh) own started (by kernel_rfl) Tryz.func3
    (ChangeSpec.witness_shaped (enc := enc) (C := Tryz.checked) (os := os) (X := fun w _ => laidMetH Tryz.prog laid3 w) false (World.doorLaid Tryz.prog 400 os) #[] 8 rfl (World.shaped_of_RefB (by kernel_rfl) (by kernel_rfl)) (by kernel_rfl) (by kernel_rfl) (by kernel_rfl) (door_met os _)) ?_
  intro W base args ds gs before hval0 hW _ _ hL _
  exact law_contract (s := Rows.trainNamesSpec) shs (gl_of hL) laidOut (by kernel_rfl) (fun t ht => readable t ht) rfl (fun ds h => by
    match ds, h with
    | [], _ => rfl) (tb := 4) (by kernel_rfl) Tryz.underlying4 hok args ds gs before hval0 hW

theorem over : Rows.trainNamesRow.holds Tryz.pinned (OpenSpec.ofChange Rows.trainNamesSpec) :=
  OpenClaim.holds_of_wide 3 Tryz.f3 rfl rfl rfl rfl rfl rfl rfl ⟨rfl, rfl, rfl, rfl, rfl⟩ rfl rfl rfl rfl rfl (by kernel_rfl) Tryz.func3 (by kernel_rfl)
    (of_decide_eq_true (by kernel_rfl)) (by unfold Func.isWrapper; first | (rw [if_pos (by decide +kernel)]; kernel_rfl) | (rw [if_neg (by decide +kernel)]; exact ⟨rfl, rfl⟩))
    (fun os started H enc _ => lifted os started H enc)

theorem proved : Rows.TrainNamesCardSaid :=
  Claim7.holds_tied_plain_at .later [] [.data] true (true, "5c5957da5c07c4906c7762e1a15bdd35dfdcdf6db3ac5ca0077f50193b48f0ef") true
    over (fun _ h => by cases h) (by kernel_rfl) (fun _ h => by cases h) trainNames_row_tie rfl ⟨rfl, rfl⟩ (by kernel_rfl) rfl
    (fun f fn hf hfn => by
      obtain rfl : f = 3 := Option.some.inj ((show Tryz.prog.funcNamed Rows.trainNamesRow.func = some 3 by kernel_rfl).symm.trans hf) |>.symm
      obtain rfl : fn = Tryz.f3 := (Option.some.inj (Tryz.func3.symm.trans hfn)).symm
      exact ⟨by kernel_rfl, fun j t ht => by
        have h : (Tryz.f3.params.toList.all fun t => !Tryz.prog.wantsStandIn t) = true := by kernel_rfl
        have := List.all_eq_true.1 h t (by rw [Array.mem_toList_iff]; exact Array.mem_of_getElem? ht)
        show Tryz.prog.wantsStandIn t = false
        simpa using this⟩)
    (by kernel_rfl)
end Go.Proofs.YtogjmpkehjfecaaGreatDoor.trainNames
