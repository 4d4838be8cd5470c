/-
  'parlour/..TypesNames' returns true for every input and leaves its arguments as they were; no condition.
-/
import Derived.Test.YthmdmnfojbnobaaDoorPart3
import Derived.Test.YthmdmnfojbnobaaDoorCards
import Derived.Test.YthmdmnfojbnobaaDoorTie
set_option linter.all false
namespace Go.Proofs.YthmdmnfojbnobaaDoor.typesNames
open Go.Ab Go.ChangeShapes Go.WideShapes Go.ChangeAt Go.RowKit

theorem readable : ∀ t ∈ Tryd.f4.params.toList, Tryd.prog.readableRec t = true ∧ t < Tryd.prog.types.size := by
  have h : (Tryd.f4.params.toList.all fun t => Tryd.prog.readableRec t && decide (t < Tryd.prog.types.size)) = true := by kernel_rfl
  intro t ht
  have := List.all_eq_true.1 h t ht
  simpa using this
theorem hok : ∀ dts, Dt.tyL Tryd.prog dts Tryd.f4.params.toList → Ok Tryd.prog 4 (dts.map Dt.sv) [] (.ret (bl true)) [] := law4

set_option maxRecDepth 100000 in
theorem lifted (os : Os) (started : os.Started) (H : Type) (enc : TypeId × Value → H) :
    ReturnsInHanded {} Tryd.checked os 4 .any (fun w args => (Rows.typesNamesSpec.pre enc Tryd.prog Tryd.f4 [] false w args ∧ laidMetH Tryd.prog laid3 w) ∧ sizedMet enc Tryd.prog Tryd.f4 (OpenSpec.ofChange Rows.typesNamesSpec) false w args)
      (Rows.typesNamesSpec.post enc Tryd.prog Tryd.f4 false true false false) := by
  refine returnsInHanded_of_change_and (C := Tryd.checked) (X := fun w _ => laidMetH Tryd.prog laid3 w) (fun _ _ _ hh h => h.of_heap hh) own started (by kernel_rfl) Tryd.func4
    (ChangeSpec.witness_shaped (enc := enc) (C := Tryd.checked) (os := os) (X := fun w _ => laidMetH Tryd.prog laid3 w) false (World.doorLaid Tryd.prog 400 os) #[.slice none 0 0, .agg #[.int .i64 0, .int .i64 0, .string ByteArray.empty, .slice none 0 0, .int .i64 0]] 8 rfl (World.shaped_of_RefB (by kernel_rfl) (by kernel_rfl)) (by kernel_rfl) (by kernel_rfl) (by kernel_rfl) (door_met os _)) ?_
  intro W base args ds gs before hval0 hW _ hsz hL _
  exact law_contract_typed (s := Rows.typesNamesSpec) [33, 9, 36, 3, 34] (by kernel_rfl) (gl_of hL) laidOut (by kernel_rfl) (fun t ht => readable t ht) rfl (fun ds h => by
    match ds, h with
    | [d1, d2], _ => rfl) (tb := 4) (by kernel_rfl) Tryd.underlying4 hok args ds gs before hval0 hW hsz

theorem over : Rows.typesNamesRow.holds Tryd.pinned (OpenSpec.ofChange Rows.typesNamesSpec) :=
  OpenClaim.holds_of_wide_leaving 4 Tryd.f4 rfl rfl rfl rfl rfl rfl rfl ⟨rfl, rfl, rfl, rfl, rfl⟩ rfl rfl rfl rfl rfl (by kernel_rfl) Tryd.func4 (by kernel_rfl)
    (of_decide_eq_true (by kernel_rfl)) (by unfold Func.isWrapper; first | (rw [if_pos (by decide +kernel)]; kernel_rfl) | (rw [if_neg (by decide +kernel)]; exact ⟨rfl, rfl⟩))
    (fun os started H enc _ => leaving_of_handed (lifted os started H enc))

theorem proved : Rows.TypesNamesCardSaid :=
  tied_goes .later [.handle] true (true, "20992bf115bacb5a220ec6b6ac112c1681b9675060f08eeb02950fe8d4005a31") true
    over (by kernel_rfl) typesNames_row_tie rfl ⟨rfl, rfl⟩ (by kernel_rfl) rfl
    (fun f fn hf hfn => by
      obtain rfl : f = 4 := Option.some.inj ((show Tryd.prog.funcNamed Rows.typesNamesRow.func = some 4 by kernel_rfl).symm.trans hf) |>.symm
      obtain rfl : fn = Tryd.f4 := (Option.some.inj (Tryd.func4.symm.trans hfn)).symm
      exact ⟨by kernel_rfl, fun j t ht => by
        have h : (Tryd.f4.params.toList.all fun t => !Tryd.prog.wantsStandIn t) = true := by kernel_rfl
        have := List.all_eq_true.1 h t (by rw [Array.mem_toList_iff]; exact Array.mem_of_getElem? ht)
        show Tryd.prog.wantsStandIn t = false
        simpa using this⟩)
    (by kernel_rfl)
end Go.Proofs.YthmdmnfojbnobaaDoor.typesNames
