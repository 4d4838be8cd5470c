/-
  'parlour/..TrainRuns' returns true for every input and leaves its arguments as they were; no condition.
-/
import Derived.Test.YtogjmpkehjfecaaRows
import Derived.Test.YtogjmpkehjfecaaPart4
import Derived.Test.YtogjmpkehjfecaaCore4
set_option linter.all false
namespace Go.Proofs.Ytogjmpkehjfecaa.trainRuns
open Go.Ab Go.ChangeShapes Go.WideShapes Go.ChangeAt Go.RowKit
theorem own : ownKnob Try.prog.godebug = none := by kernel_rfl
theorem laidOut : laidOutB Try.prog = true := by kernel_rfl
def shs : List Sh := [.st [.int .i64, .sl (.st [.int .i64, .int .i64, .int .i64, .sl (.int .i64), .sl (.int .i64), .sl (.int .i64)]), .sl (.st [.int .i64, .int .i64])], .st [.int .i64, .int .i64, .sl (.sl (.int .i64)), .sl (.sl (.int .i64))], .int .i64]

open Go.Proofs.Ytogjmpkehjfecaa.Rc
theorem has_lls {d : Dt} (h : (Sh.sl (.sl (.int .i64))).has d) : ∃ L : List (List Int), d.cells = [.slc (sls L) L.length] ∧ L.length ≤ maxLen := by
  simp only [Sh.has] at h
  obtain ⟨m, rfl, hl, hx⟩ := h
  have : ∃ L : List (List Int), L.length = m.length ∧ Dt.cellsL m = sls L := by
    clear hl
    induction m with
    | nil => exact ⟨[], rfl, rfl⟩
    | cons x r ih =>
      obtain ⟨L, h1, h2⟩ := ih fun y hy => hx y (by simp [hy])
      obtain ⟨l, e, _⟩ := has_ints (hx x (by simp))
      exact ⟨l :: L, by simp [h1], by simp [Dt.cellsL, e, h2, sls, sl]⟩
  obtain ⟨L, h1, h2⟩ := this
  exact ⟨L, by simp only [Dt.cells, h2, ← h1], by omega⟩
def shTin : Sh := .st [.int .i64, .int .i64, .sl (.sl (.int .i64)), .sl (.sl (.int .i64))]
theorem has_tin {d : Dt} (h : shTin.has d) : ∃ t : Tin, d.sv = .agg t.cells ∧ t.A.length ≤ maxLen ∧ t.P.length ≤ maxLen := by
  obtain ⟨m, rfl, hm⟩ := has_st h
  obtain ⟨d0, m, rfl, h0, hm⟩ := hasL_cons hm
  obtain ⟨d1, m, rfl, h1, hm⟩ := hasL_cons hm
  obtain ⟨d2, m, rfl, h2, hm⟩ := hasL_cons hm
  obtain ⟨d3, m, rfl, h3, hm⟩ := hasL_cons hm
  obtain rfl := hasL_nil hm
  obtain ⟨n0, e0, _⟩ := has_i64 h0
  obtain ⟨n1, e1, _⟩ := has_i64 h1
  obtain ⟨l2, e2, b2⟩ := has_lls h2
  obtain ⟨l3, e3, b3⟩ := has_lls h3
  exact ⟨⟨n0, n1, l2, l3⟩, by simp [Dt.sv, Dt.cellsL, e0, e1, e2, e3, Tin.cells], b2, b3⟩
theorem readable : ∀ t ∈ Try.f3.params.toList, Try.prog.readableRec t = true ∧ t < Try.prog.types.size := by
  have h : (Try.f3.params.toList.all fun t => Try.prog.readableRec t && decide (t < Try.prog.types.size)) = true := by kernel_rfl
  intro t ht
  have := List.all_eq_true.1 h t ht
  simpa using this


theorem hok : ∀ dts, Sh.hasL shs dts → Ok Try.prog 3 (dts.map Dt.sv) [] (.ret (bl true)) [] := by
  intro dts hm
  obtain ⟨d0, m, rfl, h0, hm⟩ := hasL_cons hm
  obtain ⟨d1, m, rfl, h1, hm⟩ := hasL_cons hm
  obtain ⟨d2, m, rfl, h2, hm⟩ := hasL_cons hm
  obtain rfl := hasL_nil hm
  obtain ⟨g, e0⟩ := has_gm h0
  obtain ⟨t, e1, b1, b2⟩ := has_tin h1
  obtain ⟨n, _, e2, hn⟩ := has_i64 h2
  have hm : maxLen = 9223372036854775807 := by decide
  simp only [List.map_cons, List.map_nil, e0, e1, e2]
  exact ok3 n hn (by omega) (by omega)

set_option maxRecDepth 100000 in
theorem lifted (os : Os) (started : os.Started) (H : Type) (enc : TypeId × Value → H) :
    ReturnsInHanded {} Try.checked os 3 .any (Rows.trainRunsSpec.pre6 enc Try.prog Try.f3 Rows.trainRunsRow.domain false) (Rows.trainRunsSpec.post enc Try.prog Try.f3 false true false false) := by
  refine returnsInHanded_of_change (C := Try.checked) own started (by kernel_rfl) Try.func3
    (ChangeSpec.witness6 (enc := enc) (C := Try.checked) false ⟨#[], #[.agg #[.int .i64 0, .slice none 0 0, .slice none 0 0], .agg #[.int .i64 0, .int .i64 0, .slice none 0 0, .slice none 0 0], .int .i64 0], []⟩ 8 (by kernel_rfl) (by kernel_rfl) (by kernel_rfl) (by kernel_rfl)) ?_
  intro W base args ds gs before hval0 hW hcnd _
  exact law_contract (s := Rows.trainRunsSpec) shs (fun g us h => by cases h) laidOut (by kernel_rfl) (fun t ht => readable t ht) rfl (fun ds h => by
    match ds, h with
    | [d1, d2, d3], _ => rfl) (tb := 4) (by kernel_rfl) Try.underlying4 hok args ds gs before hval0 hW

theorem over : Rows.trainRunsRow.holds Try.pinned (OpenSpec.ofChange Rows.trainRunsSpec) :=
  OpenClaim.holds_of_wide 3 Try.f3 rfl rfl rfl rfl rfl rfl rfl ⟨rfl, rfl, rfl, rfl, rfl⟩ rfl rfl rfl rfl rfl (by kernel_rfl) Try.func3 (by kernel_rfl)
    (of_decide_eq_true (by kernel_rfl)) (by unfold Func.isWrapper; first | (rw [if_pos (by decide +kernel)]; kernel_rfl) | (rw [if_neg (by decide +kernel)]; exact ⟨rfl, rfl⟩))
    (fun os started H enc _ => lifted os started H enc)

theorem proved : Rows.TrainRunsSaid :=
  over
end Go.Proofs.Ytogjmpkehjfecaa.trainRuns
