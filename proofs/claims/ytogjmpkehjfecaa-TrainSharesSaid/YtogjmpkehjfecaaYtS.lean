/-
  'parlour/..TrainShares' returns true for every input and leaves its arguments as they were; no condition.
-/
import Derived.Test.YtogjmpkehjfecaaRows
import Derived.Test.YtogjmpkehjfecaaPart6
import Derived.Test.YtogjmpkehjfecaaCore4
set_option linter.all false
namespace Go.Proofs.Ytogjmpkehjfecaa.trainShares
open Go.Ab Go.ChangeShapes Go.WideShapes Go.ChangeAt Go.RowKit
theorem own : ownKnob Try.prog.godebug = none := by kernel_rfl
theorem laidOut : laidOutB Try.prog = true := by kernel_rfl
def shs : List Sh := [.sl (.int .i64), .int .i64, .int .i64]

open Go.Proofs.Ytogjmpkehjfecaa.Rc
theorem readable : ∀ t ∈ Try.f4.params.toList, Try.prog.readableRec t = true ∧ t < Try.prog.types.size := by
  have h : (Try.f4.params.toList.all fun t => Try.prog.readableRec t && decide (t < Try.prog.types.size)) = true := by kernel_rfl
  intro t ht
  have := List.all_eq_true.1 h t ht
  simpa using this
theorem hok : ∀ dts, Sh.hasL shs dts → Ok Try.prog 4 (dts.map Dt.sv) [] (.ret (bl true)) [] := by
  intro dts hm
  obtain ⟨d0, m0, rfl, h0, hm⟩ := hasL_cons hm
  obtain ⟨d1, m1, rfl, h1, hm⟩ := hasL_cons hm
  obtain ⟨d2, m2, rfl, h2, hm⟩ := hasL_cons hm
  obtain rfl := hasL_nil hm
  obtain ⟨n1, _, e1, q1⟩ := has_i64 h1
  obtain ⟨n2, _, e2, q2⟩ := has_i64 h2
  obtain ⟨l0, _, e0, b0, _⟩ := has_ints h0
  simp only [List.map_cons, List.map_nil, e0, e1, e2]
  have hm : maxLen = 9223372036854775807 := by decide
  exact ok4 (by omega) n1 n2

set_option maxRecDepth 100000 in
theorem lifted (os : Os) (started : os.Started) (H : Type) (enc : TypeId × Value → H) :
    ReturnsInHanded {} Try.checked os 4 .any (Rows.trainSharesSpec.pre6 enc Try.prog Try.f4 Rows.trainSharesRow.domain false) (Rows.trainSharesSpec.post enc Try.prog Try.f4 false true false false) := by
  refine returnsInHanded_of_change (C := Try.checked) own started (by kernel_rfl) Try.func4
    (ChangeSpec.witness6 (enc := enc) (C := Try.checked) false ⟨#[], #[.slice none 0 0, .int .i64 0, .int .i64 0], []⟩ 8 (by kernel_rfl) (by kernel_rfl) (by kernel_rfl) (by kernel_rfl)) ?_
  intro W base args ds gs before hval0 hW hcnd _
  exact law_contract (s := Rows.trainSharesSpec) shs (fun g us h => by cases h) laidOut (by kernel_rfl) (fun t ht => readable t ht) rfl (fun ds h => by
    match ds, h with
    | [d1, d2, d3], _ => rfl) (tb := 4) (by kernel_rfl) Try.underlying4 hok args ds gs before hval0 hW

theorem over : Rows.trainSharesRow.holds Try.pinned (OpenSpec.ofChange Rows.trainSharesSpec) :=
  OpenClaim.holds_of_wide 4 Try.f4 rfl rfl rfl rfl rfl rfl rfl ⟨rfl, rfl, rfl, rfl, rfl⟩ rfl rfl rfl rfl rfl (by kernel_rfl) Try.func4 (by kernel_rfl)
    (of_decide_eq_true (by kernel_rfl)) (by unfold Func.isWrapper; first | (rw [if_pos (by decide +kernel)]; kernel_rfl) | (rw [if_neg (by decide +kernel)]; exact ⟨rfl, rfl⟩))
    (fun os started H enc _ => lifted os started H enc)

theorem proved : Rows.TrainSharesSaid :=
  over
end Go.Proofs.Ytogjmpkehjfecaa.trainShares
