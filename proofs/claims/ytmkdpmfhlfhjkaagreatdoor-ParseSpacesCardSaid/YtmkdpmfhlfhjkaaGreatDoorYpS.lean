/-
  'parlour/..ParseSpaces' returns true for every input and leaves its arguments as they were; no condition.
-/
import Derived.Test.YtmkdpmfhlfhjkaaGreatDoorPart9
import Derived.Test.YtmkdpmfhlfhjkaaGreatDoorCards
import Derived.Test.YtmkdpmfhlfhjkaaGreatDoorTie
set_option linter.all false
namespace Go.Proofs.YtmkdpmfhlfhjkaaGreatDoor.parseSpaces
open Go.Ab Go.ChangeShapes Go.WideShapes Go.ChangeAt Go.RowKit

theorem readable : ∀ t ∈ Tryz.f9.params.toList, Tryz.prog.readableRec t = true ∧ t < Tryz.prog.types.size := by
  have h : (Tryz.f9.params.toList.all fun t => Tryz.prog.readableRec t && decide (t < Tryz.prog.types.size)) = true := by kernel_rfl
  intro t ht
  have := List.all_eq_true.1 h t ht
  simpa using this
theorem hok : ∀ dts, Dt.tyL Tryz.prog dts Tryz.f9.params.toList → Ok Tryz.prog 9 (dts.map Dt.sv) [] (.ret (bl true)) [] := law9d

set_option maxRecDepth 100000 in
theorem lifted (os : Os) (started : os.Started) (H : Type) (enc : TypeId × Value → H) :
    ReturnsInHanded {} Tryz.checked os 9 .any (fun w args => (Rows.parseSpacesSpec.pre enc Tryz.prog Tryz.f9 [] false w args ∧ laidMetH Tryz.prog laid3 w) ∧ sizedMet enc Tryz.prog Tryz.f9 (OpenSpec.ofChange Rows.parseSpacesSpec) false w args)
      (Rows.parseSpacesSpec.post enc Tryz.prog Tryz.f9 false true false false) := by
  refine returnsInHanded_of_change_and (C := Tryz.checked) (X := fun w _ => laidMetH Tryz.prog laid3 w) (fun _ _ _ hh h => h.of_heap hh) own started (by kernel_rfl) Tryz.func9
    (ChangeSpec.witness_shaped (enc := enc) (C := Tryz.checked) (os := os) (X := fun w _ => laidMetH Tryz.prog laid3 w) false (World.doorLaid Tryz.prog 400 os) #[.slice none 0 0, .string ByteArray.empty] 8 rfl (World.shaped_of_RefB (by kernel_rfl) (by kernel_rfl)) (by kernel_rfl) (by kernel_rfl) (by kernel_rfl) (door_met os _)) ?_
  intro W base args ds gs before hval0 hW _ hsz hL _
  exact law_contract_flat (s := Rows.parseSpacesSpec) (by kernel_rfl) (gl_of hL) laidOut (fun t ht => readable t ht) rfl (fun ds h => by
    match ds, h with
    | [d1, d2], _ => rfl) (tb := 4) (by kernel_rfl) Tryz.underlying4 hok args ds gs before hval0 hW hsz

theorem over : Rows.parseSpacesRow.holds Tryz.pinned (OpenSpec.ofChange Rows.parseSpacesSpec) :=
  OpenClaim.holds_of_wide 9 Tryz.f9 rfl rfl rfl rfl rfl rfl rfl ⟨rfl, rfl, rfl, rfl, rfl⟩ rfl rfl rfl rfl rfl (by kernel_rfl) Tryz.func9 (by kernel_rfl)
    (of_decide_eq_true (by kernel_rfl)) (by unfold Func.isWrapper; first | (rw [if_pos (by decide +kernel)]; kernel_rfl) | (rw [if_neg (by decide +kernel)]; exact ⟨rfl, rfl⟩))
    (fun os started H enc _ => lifted os started H enc)

theorem proved : Rows.ParseSpacesCardSaid :=
  Claim7.holds_tied_plain_at .later [] [.data, .data, .data, .handle, .data, .data] true (true, "a978f9786b7879e712d62ad3a806881b733b7d668d4dc09e79d349c67cfe149d") true
    over (fun _ h => by cases h) (by kernel_rfl) (fun _ h => by cases h) parseSpaces_row_tie rfl ⟨rfl, rfl⟩ (by kernel_rfl) rfl
    (fun f fn hf hfn => by
      obtain rfl : f = 9 := Option.some.inj ((show Tryz.prog.funcNamed Rows.parseSpacesRow.func = some 9 by kernel_rfl).symm.trans hf) |>.symm
      obtain rfl : fn = Tryz.f9 := (Option.some.inj (Tryz.func9.symm.trans hfn)).symm
      exact ⟨by kernel_rfl, fun j t ht => by
        have h : (Tryz.f9.params.toList.all fun t => !Tryz.prog.wantsStandIn t) = true := by kernel_rfl
        have := List.all_eq_true.1 h t (by rw [Array.mem_toList_iff]; exact Array.mem_of_getElem? ht)
        show Tryz.prog.wantsStandIn t = false
        simpa using this⟩)
    (by kernel_rfl)
end Go.Proofs.YtmkdpmfhlfhjkaaGreatDoor.parseSpaces
