/-
  'parlour/..PackReads' returns true for every input and leaves its arguments as they were; no condition.
-/
import Derived.Test.YtoghpbjllompaaaRows
import Derived.Test.YtoghpbjllompaaaPart3
set_option linter.all false
namespace Go.Proofs.Ytoghpbjllompaaa.packReads
open Go.Ab Go.ChangeShapes Go.WideShapes Go.ChangeAt Go.RowKit
theorem own : ownKnob Try.prog.godebug = none := by kernel_rfl
theorem laidOut : laidOutB Try.prog = true := by kernel_rfl
def shs : List Sh := [.sl (.int .u8)]

theorem readable : ∀ t ∈ Try.f8.params.toList, Try.prog.readableRec t = true ∧ t < Try.prog.types.size := by
  have h : (Try.f8.params.toList.all fun t => Try.prog.readableRec t && decide (t < Try.prog.types.size)) = true := by kernel_rfl
  intro t ht
  have := List.all_eq_true.1 h t ht
  simpa using this
theorem hok : ∀ dts, Sh.hasL shs dts → Ok Try.prog 8 (dts.map Dt.sv) [] (.ret (bl true)) [] := by
  intro dts hm
  obtain ⟨d0, m0, rfl, h0, hm⟩ := hasL_cons hm
  obtain rfl := hasL_nil hm
  obtain ⟨l0, _, e0, b0, q0⟩ := has_byts h0
  simp only [List.map_cons, List.map_nil, e0]
  exact Rc.ok8 q0 b0

set_option maxRecDepth 100000 in
theorem lifted (os : Os) (started : os.Started) (H : Type) (enc : TypeId × Value → H) :
    ReturnsInHanded {} Try.checked os 8 .any (Rows.packReadsSpec.pre6 enc Try.prog Try.f8 Rows.packReadsRow.domain false) (Rows.packReadsSpec.post enc Try.prog Try.f8 false true false false) := by
  refine returnsInHanded_of_change (C := Try.checked) own started (by kernel_rfl) Try.func8
    (ChangeSpec.witness6 (enc := enc) (C := Try.checked) false ⟨#[], #[.slice none 0 0], []⟩ 8 (by kernel_rfl) (by kernel_rfl) (by kernel_rfl) (by kernel_rfl)) ?_
  intro W base args ds gs before hval0 hW hcnd _
  exact law_contract (s := Rows.packReadsSpec) shs laidOut (by kernel_rfl) (fun t ht => readable t ht) rfl (fun ds h => by
    match ds, h with
    | [d1], _ => rfl) (tb := 4) (by kernel_rfl) Try.underlying4 hok args ds gs before hval0 hW

theorem over : Rows.packReadsRow.holds Try.pinned (OpenSpec.ofChange Rows.packReadsSpec) :=
  OpenClaim.holds_of_wide 8 Try.f8 rfl rfl rfl rfl rfl rfl rfl ⟨rfl, rfl, rfl, rfl, rfl⟩ rfl rfl rfl rfl rfl (by kernel_rfl) Try.func8 (by kernel_rfl)
    (of_decide_eq_true (by kernel_rfl)) (by unfold Func.isWrapper; first | (rw [if_pos (by decide +kernel)]; kernel_rfl) | (rw [if_neg (by decide +kernel)]; exact ⟨rfl, rfl⟩))
    (fun os started H enc _ => lifted os started H enc)

theorem proved : Rows.PackReadsSaid :=
  over
end Go.Proofs.Ytoghpbjllompaaa.packReads
