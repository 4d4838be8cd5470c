/-
  'parlour/..TokenStrips' returns true for every input and leaves its arguments as they were; no condition.
-/
import Derived.Test.YtjbhokoihamhiaaDoorPart2
import Derived.Test.YtjbhokoihamhiaaDoorCards
import Derived.Test.YtjbhokoihamhiaaDoorTie
import Derived.SevenTiedAt
set_option linter.all false
namespace Go.Proofs.YtjbhokoihamhiaaDoor.tokenStrips
open Go.Ab Go.ChangeShapes Go.WideShapes Go.ChangeAt Go.RowKit
def shs : List Sh := [.str, .int .i64]

theorem readable : ∀ t ∈ Tryd.f9.params.toList, Tryd.prog.readableRec t = true ∧ t < Tryd.prog.types.size := by
  have h : (Tryd.f9.params.toList.all fun t => Tryd.prog.readableRec t && decide (t < Tryd.prog.types.size)) = true := by kernel_rfl
  intro t ht
  have := List.all_eq_true.1 h t ht
  simpa using this
theorem hok : ∀ dts, Sh.hasL shs dts → Sh.fitL shs dts → Ok Tryd.prog 9 (dts.map Dt.sv) [] (.ret (bl true)) [] := by
  intro dts hm hf
  obtain ⟨d0, m0, rfl, h0, hm⟩ := hasL_cons hm
  obtain ⟨d1, m1, rfl, h1, hm⟩ := hasL_cons hm
  obtain rfl := hasL_nil hm
  obtain ⟨n1, _, e1, q1⟩ := has_i64 h1
  simp only [Sh.has] at h0
  obtain ⟨s0, rfl, _⟩ := h0
  simp only [shs, Sh.fitL, Sh.fit] at hf
  have hb := hf.1 s0 rfl
  simp only [List.map_cons, List.map_nil, str_fit, e1]
  exact law9 (strB hb) n1 q1.1 q1.2


set_option maxRecDepth 100000 in
theorem lifted (os : Os) (started : os.Started) (H : Type) (enc : TypeId × Value → H) :
    ReturnsInHanded {} Tryd.checked os 9 .any (fun w args => (Rows.tokenStripsSpec.pre enc Tryd.prog Tryd.f9 [] false w args ∧ laidMetH Tryd.prog laid3 w) ∧ sizedMet enc Tryd.prog Tryd.f9 (OpenSpec.ofChange Rows.tokenStripsSpec) false w args)
      (Rows.tokenStripsSpec.post enc Tryd.prog Tryd.f9 false true false false) := by
  refine returnsInHanded_of_change_and (C := Tryd.checked) (X := fun w _ => laidMetH Tryd.prog laid3 w) (fun _ _ _ hh h => h.of_heap hh) own started (by kernel_rfl) Tryd.func9
    (ChangeSpec.witness_shaped (enc := enc) (C := Tryd.checked) (os := os) (X := fun w _ => laidMetH Tryd.prog laid3 w) false (World.doorLaid Tryd.prog 400 os) #[.string ByteArray.empty, .int .i64 0] 8 rfl (World.shaped_of_RefB (by kernel_rfl) (by kernel_rfl)) (by kernel_rfl) (by kernel_rfl) (by kernel_rfl) (door_met os _)) ?_
  intro W base args ds gs before hval0 hW _ hsz hL _
  exact law_contract_sized (s := Rows.tokenStripsSpec) shs (gl_of hL) laidOut (by kernel_rfl) (by kernel_rfl) (fun t ht => readable t ht) rfl (fun ds h => by
    match ds, h with
    | [d1, d2], _ => rfl) (tb := 4) (by kernel_rfl) Tryd.underlying4 hok args ds gs before hval0 hW hsz

theorem over : Rows.tokenStripsRow.holds Tryd.pinned (OpenSpec.ofChange Rows.tokenStripsSpec) :=
  OpenClaim.holds_of_wide 9 Tryd.f9 rfl rfl rfl rfl rfl rfl rfl ⟨rfl, rfl, rfl, rfl, rfl⟩ rfl rfl rfl rfl rfl (by kernel_rfl) Tryd.func9 (by kernel_rfl)
    (of_decide_eq_true (by kernel_rfl)) (by unfold Func.isWrapper; first | (rw [if_pos (by decide +kernel)]; kernel_rfl) | (rw [if_neg (by decide +kernel)]; exact ⟨rfl, rfl⟩))
    (fun os started H enc _ => lifted os started H enc)

theorem proved : Rows.TokenStripsCardSaid :=
  Claim7.holds_tied_plain_at .later [] [.handle, .data, .data] true (true, "937f33c3de3408465ebfd8b4df8a5ccb6e74215f18f72f83c0f381bf869eff98") true
    over (fun _ h => by cases h) (by kernel_rfl) (fun _ h => by cases h) tokenStrips_row_tie rfl ⟨rfl, rfl⟩ (by kernel_rfl) rfl
    (fun f fn hf hfn => by
      obtain rfl : f = 9 := Option.some.inj ((show Tryd.prog.funcNamed Rows.tokenStripsRow.func = some 9 by kernel_rfl).symm.trans hf) |>.symm
      obtain rfl : fn = Tryd.f9 := (Option.some.inj (Tryd.func9.symm.trans hfn)).symm
      exact ⟨by kernel_rfl, fun j t ht => by
        have h : (Tryd.f9.params.toList.all fun t => !Tryd.prog.wantsStandIn t) = true := by kernel_rfl
        have := List.all_eq_true.1 h t (by rw [Array.mem_toList_iff]; exact Array.mem_of_getElem? ht)
        show Tryd.prog.wantsStandIn t = false
        simpa using this⟩)
    (by kernel_rfl)
end Go.Proofs.YtjbhokoihamhiaaDoor.tokenStrips
