/-
  'parlour/..TrainStates' returns true for every input and leaves its arguments as they were; no condition.
-/
import Derived.Test.YtogjmpkehjfecaaGreatDoorPart1
import Derived.Test.YtogjmpkehjfecaaGreatDoorPart5
import Derived.Test.YtogjmpkehjfecaaGreatDoorCards
import Derived.Test.YtogjmpkehjfecaaGreatDoorTie
set_option linter.all false
namespace Go.Proofs.YtogjmpkehjfecaaGreatDoor.trainStates
open Go.Ab Go.ChangeShapes Go.WideShapes Go.ChangeAt Go.RowKit
def shs : List Sh := [.st [.int .i64, .sl (.st [.int .i64, .int .i64, .int .i64, .sl (.int .i64), .sl (.int .i64), .sl (.int .i64)]), .sl (.st [.int .i64, .int .i64])], .st [.int .i64, .int .i64, .sl (.sl (.int .i64)), .sl (.sl (.int .i64))]]

theorem readable : ∀ t ∈ Tryz.f4.params.toList, Tryz.prog.readableRec t = true ∧ t < Tryz.prog.types.size := by
  have h : (Tryz.f4.params.toList.all fun t => Tryz.prog.readableRec t && decide (t < Tryz.prog.types.size)) = true := by kernel_rfl
  intro t ht
  have := List.all_eq_true.1 h t ht
  simpa using this
open Go.Proofs.YtogjmpkehjfecaaGreatDoor.Rc
theorem has_lls {d : Dt} (h : (Sh.sl (.sl (.int .i64))).has d) : ∃ L : List (List Int), d.cells = [.slc (sls L) L.length] ∧ L.length ≤ maxLen := by
  simp only [Sh.has] at h
  obtain ⟨m, rfl, hl, hx⟩ := h
  have : ∃ L : List (List Int), L.length = m.length ∧ Dt.cellsL m = sls L := by
    clear hl
    induction m with
    | nil => exact ⟨[], rfl, rfl⟩
    | cons x r ih =>
      obtain ⟨L, h1, h2⟩ := ih fun y hy => hx y (by simp [hy])
      obtain ⟨l, e, _⟩ := has_ints (hx x (by simp))
      exact ⟨l :: L, by simp [h1], by simp [Dt.cellsL, e, h2, sls, sl]⟩
  obtain ⟨L, h1, h2⟩ := this
  exact ⟨L, by simp only [Dt.cells, h2, ← h1], by omega⟩
def shTin : Sh := .st [.int .i64, .int .i64, .sl (.sl (.int .i64)), .sl (.sl (.int .i64))]
theorem has_tin {d : Dt} (h : shTin.has d) : ∃ t : Tin, d.sv = .agg t.cells ∧ t.A.length ≤ maxLen ∧ t.P.length ≤ maxLen := by
  obtain ⟨m, rfl, hm⟩ := has_st h
  obtain ⟨d0, m, rfl, h0, hm⟩ := hasL_cons hm
  obtain ⟨d1, m, rfl, h1, hm⟩ := hasL_cons hm
  obtain ⟨d2, m, rfl, h2, hm⟩ := hasL_cons hm
  obtain ⟨d3, m, rfl, h3, hm⟩ := hasL_cons hm
  obtain rfl := hasL_nil hm
  obtain ⟨n0, e0, _⟩ := has_i64 h0
  obtain ⟨n1, e1, _⟩ := has_i64 h1
  obtain ⟨l2, e2, b2⟩ := has_lls h2
  obtain ⟨l3, e3, b3⟩ := has_lls h3
  exact ⟨⟨n0, n1, l2, l3⟩, by simp [Dt.sv, Dt.cellsL, e0, e1, e2, e3, Tin.cells], b2, b3⟩
theorem hok : ∀ dts, Sh.hasL shs dts → Ok Tryz.prog 4 (dts.map Dt.sv) [] (.ret (bl true)) [] := by
  intro dts hm
  obtain ⟨d0, m, rfl, h0, hm⟩ := hasL_cons hm
  obtain ⟨d1, m, rfl, h1, hm⟩ := hasL_cons hm
  obtain rfl := hasL_nil hm
  obtain ⟨g, e0⟩ := has_gm h0
  obtain ⟨t, e1, b1, b2⟩ := has_tin h1
  have hm : maxLen = 9223372036854775807 := by decide
  simp only [List.map_cons, List.map_nil, e0, e1]
  exact ok4 (by omega) (by omega)


set_option maxRecDepth 100000 in
theorem lifted (os : Os) (started : os.Started) (H : Type) (enc : TypeId × Value → H) :
    ReturnsInHanded {} Tryz.checked os 4 .any (fun w args => (Rows.trainStatesSpec.pre enc Tryz.prog Tryz.f4 [] false w args ∧ laidMetH Tryz.prog laid3 w) ∧ sizedMet enc Tryz.prog Tryz.f4 (OpenSpec.ofChange Rows.trainStatesSpec) false w args)
      (Rows.trainStatesSpec.post enc Tryz.prog Tryz.f4 false true false false) := by
  refine returnsInHanded_of_change_and (C := Tryz.checked) (X := fun w _ => laidMetH Tryz.prog laid3 w) (fun _ _ _ hh h => h.of_heap hh) own started (by kernel_rfl) Tryz.func4
    (ChangeSpec.witness_shaped (enc := enc) (C := Tryz.checked) (os := os) (X := fun w _ => laidMetH Tryz.prog laid3 w) false (World.doorLaid Tryz.prog 400 os) #[.agg #[.int .i64 0, .slice none 0 0, .slice none 0 0], .agg #[.int .i64 0, .int .i64 0, .slice none 0 0, .slice none 0 0]] 8 rfl (World.shaped_of_RefB (by kernel_rfl) (by kernel_rfl)) (by kernel_rfl) (by kernel_rfl) (by kernel_rfl) (door_met os _)) ?_
  intro W base args ds gs before hval0 hW _ _ hL _
  exact law_contract (s := Rows.trainStatesSpec) shs (gl_of hL) laidOut (by kernel_rfl) (fun t ht => readable t ht) rfl (fun ds h => by
    match ds, h with
    | [d1, d2], _ => rfl) (tb := 4) (by kernel_rfl) Tryz.underlying4 hok args ds gs before hval0 hW

theorem over : Rows.trainStatesRow.holds Tryz.pinned (OpenSpec.ofChange Rows.trainStatesSpec) :=
  OpenClaim.holds_of_wide 4 Tryz.f4 rfl rfl rfl rfl rfl rfl rfl ⟨rfl, rfl, rfl, rfl, rfl⟩ rfl rfl rfl rfl rfl (by kernel_rfl) Tryz.func4 (by kernel_rfl)
    (of_decide_eq_true (by kernel_rfl)) (by unfold Func.isWrapper; first | (rw [if_pos (by decide +kernel)]; kernel_rfl) | (rw [if_neg (by decide +kernel)]; exact ⟨rfl, rfl⟩))
    (fun os started H enc _ => lifted os started H enc)

theorem proved : Rows.TrainStatesCardSaid :=
  Claim7.holds_tied_plain_at .later [] [.data] true (true, "5c5957da5c07c4906c7762e1a15bdd35dfdcdf6db3ac5ca0077f50193b48f0ef") true
    over (fun _ h => by cases h) (by kernel_rfl) (fun _ h => by cases h) trainStates_row_tie rfl ⟨rfl, rfl⟩ (by kernel_rfl) rfl
    (fun f fn hf hfn => by
      obtain rfl : f = 4 := Option.some.inj ((show Tryz.prog.funcNamed Rows.trainStatesRow.func = some 4 by kernel_rfl).symm.trans hf) |>.symm
      obtain rfl : fn = Tryz.f4 := (Option.some.inj (Tryz.func4.symm.trans hfn)).symm
      exact ⟨by kernel_rfl, fun j t ht => by
        have h : (Tryz.f4.params.toList.all fun t => !Tryz.prog.wantsStandIn t) = true := by kernel_rfl
        have := List.all_eq_true.1 h t (by rw [Array.mem_toList_iff]; exact Array.mem_of_getElem? ht)
        show Tryz.prog.wantsStandIn t = false
        simpa using this⟩)
    (by kernel_rfl)
end Go.Proofs.YtogjmpkehjfecaaGreatDoor.trainStates
