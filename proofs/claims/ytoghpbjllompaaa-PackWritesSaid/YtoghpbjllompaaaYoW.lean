/-
  'parlour/..PackWrites' returns true for every input and leaves its arguments as they were; no condition.
-/
import Derived.Test.YtoghpbjllompaaaRows
import Derived.Test.YtoghpbjllompaaaPart2
set_option linter.all false
namespace Go.Proofs.Ytoghpbjllompaaa.packWrites
open Go.Ab Go.ChangeShapes Go.WideShapes Go.ChangeAt Go.RowKit
theorem own : ownKnob Try.prog.godebug = none := by kernel_rfl
theorem laidOut : laidOutB Try.prog = true := by kernel_rfl
def shs : List Sh := [.st [.int .i64, .sl (.st [.int .i64, .int .i64, .int .i64, .sl (.int .i64), .sl (.int .i64), .sl (.int .i64)]), .sl (.st [.int .i64, .int .i64])], .st [.int .i64, .sl (.sl (.int .i64))]]

theorem readable : ∀ t ∈ Try.f3.params.toList, Try.prog.readableRec t = true ∧ t < Try.prog.types.size := by
  have h : (Try.f3.params.toList.all fun t => Try.prog.readableRec t && decide (t < Try.prog.types.size)) = true := by kernel_rfl
  intro t ht
  have := List.all_eq_true.1 h t ht
  simpa using this
theorem hok : ∀ dts, Sh.hasL shs dts → Ok Try.prog 3 (dts.map Dt.sv) [] (.ret (bl true)) [] := by
  intro dts hm
  obtain ⟨d0, m0, rfl, h0, hm⟩ := hasL_cons hm
  obtain ⟨d1, m1, rfl, h1, hm⟩ := hasL_cons hm
  obtain rfl := hasL_nil hm
  obtain ⟨t, e1, ht⟩ := Rc.has_tb h1
  obtain ⟨g, e0⟩ := Rc.has_gm0 h0
  simp only [List.map_cons, List.map_nil, e0, e1]
  exact Rc.ok3 ht


set_option maxRecDepth 100000 in
theorem lifted (os : Os) (started : os.Started) (H : Type) (enc : TypeId × Value → H) :
    ReturnsInHanded {} Try.checked os 3 .any (Rows.packWritesSpec.pre6 enc Try.prog Try.f3 Rows.packWritesRow.domain false) (Rows.packWritesSpec.post enc Try.prog Try.f3 false true false false) := by
  refine returnsInHanded_of_change (C := Try.checked) own started (by kernel_rfl) Try.func3
    (ChangeSpec.witness6 (enc := enc) (C := Try.checked) false ⟨#[], #[.agg #[.int .i64 0, .slice none 0 0, .slice none 0 0], .agg #[.int .i64 0, .slice none 0 0]], []⟩ 8 (by kernel_rfl) (by kernel_rfl) (by kernel_rfl) (by kernel_rfl)) ?_
  intro W base args ds gs before hval0 hW hcnd _
  exact law_contract (s := Rows.packWritesSpec) shs laidOut (by kernel_rfl) (fun t ht => readable t ht) rfl (fun ds h => by
    match ds, h with
    | [d1, d2], _ => rfl) (tb := 4) (by kernel_rfl) Try.underlying4 hok args ds gs before hval0 hW

theorem over : Rows.packWritesRow.holds Try.pinned (OpenSpec.ofChange Rows.packWritesSpec) :=
  OpenClaim.holds_of_wide 3 Try.f3 rfl rfl rfl rfl rfl rfl rfl ⟨rfl, rfl, rfl, rfl, rfl⟩ rfl rfl rfl rfl rfl (by kernel_rfl) Try.func3 (by kernel_rfl)
    (of_decide_eq_true (by kernel_rfl)) (by unfold Func.isWrapper; first | (rw [if_pos (by decide +kernel)]; kernel_rfl) | (rw [if_neg (by decide +kernel)]; exact ⟨rfl, rfl⟩))
    (fun os started H enc _ => lifted os started H enc)

theorem proved : Rows.PackWritesSaid :=
  over
end Go.Proofs.Ytoghpbjllompaaa.packWrites
