/-
  'parlour/..TypesPrinted' returns true for every input of bulk at most 1048576 and leaves its arguments as they were.
-/
import Derived.Test.YthmdmnfojbnobaaGreatDoorPart5
import Derived.Test.YthmdmnfojbnobaaGreatDoorCards
import Derived.Test.YthmdmnfojbnobaaGreatDoorTie
set_option linter.all false
namespace Go.Proofs.YthmdmnfojbnobaaGreatDoor.typesPrinted
open Go.Ab Go.ChangeShapes Go.WideShapes Go.ChangeAt Go.RowKit

theorem readable : ∀ t ∈ Tryz.f5.params.toList, Tryz.prog.readableRec t = true ∧ t < Tryz.prog.types.size := by
  have h : (Tryz.f5.params.toList.all fun t => Tryz.prog.readableRec t && decide (t < Tryz.prog.types.size)) = true := by kernel_rfl
  intro t ht
  have := List.all_eq_true.1 h t ht
  simpa using this
theorem hok : ∀ dts, Dt.tyL Tryz.prog dts Tryz.f5.params.toList → Dt.blkL dts ≤ 1048576 → Ok Tryz.prog 5 (dts.map Dt.sv) [] (.ret (bl true)) [] := law5

theorem at_F (F : Stop.Interp) : (Rows.OpenSpec.upto Rows.typesPrintedSpec).at F = Rows.typesPrintedSpec := rfl

set_option maxRecDepth 100000 in
theorem lifted (os : Os) (started : os.Started) (H : Type) (enc : TypeId × Value → H) (F : Stop.Interp) :
    ReturnsInHanded {} Tryz.checked os 5 .any (fun w args => ((Rows.OpenSpec.upto Rows.typesPrintedSpec).pre enc Tryz.prog Tryz.f5 [] false w args ∧ laidMetH Tryz.prog laid3 w) ∧ sizedMet enc Tryz.prog Tryz.f5 (Rows.OpenSpec.upto Rows.typesPrintedSpec) false w args)
      (((Rows.OpenSpec.upto Rows.typesPrintedSpec).at F).post enc Tryz.prog Tryz.f5 false true false false) := by
  refine returns_of_cond (k := Rows.uptoSmall) (s := Rows.OpenSpec.upto Rows.typesPrintedSpec) rfl (F := F) (conds := []) (apart := false) (X := fun w => laidMetH Tryz.prog laid3 w) (fun _ _ hh h => h.of_heap hh) own started (by kernel_rfl) Tryz.func5 ?_ ?_
  · obtain ⟨w, tape, i, a1, a2, a3, a4, ⟨⟨_, a5⟩, a6⟩, a7⟩ := (ChangeSpec.witness_shaped (s := Rows.typesPrintedSpec) (conds := []) (apart := false) (fn := Tryz.f5) (enc := enc) (C := Tryz.checked) (os := os) (f := 5) (X := fun w args => laidMetH Tryz.prog laid3 w ∧ (Rows.OpenSpec.upto Rows.typesPrintedSpec).pre enc Tryz.prog Tryz.f5 [] false w args) false (World.doorLaid Tryz.prog 400 os) #[.agg #[.string ByteArray.empty, .int .i64 0, .slice none 0 0, .slice none 0 0], .int .i64 0, .int .i64 0] 8 rfl (World.shaped_of_RefB (by kernel_rfl) (by kernel_rfl)) (by kernel_rfl) (by kernel_rfl) (by kernel_rfl) ⟨door_met os _, by
      have hh : (match DataW.whole enc Tryz.prog ((World.doorLaid Tryz.prog 400 os).forCall (fun _ _ => 0) ⟨#[], #[.agg #[.string ByteArray.empty, .int .i64 0, .slice none 0 0, .slice none 0 0], .int .i64 0, .int .i64 0], []⟩).memory Tryz.f5.params.toList [] false [.agg #[.string ByteArray.empty, .int .i64 0, .slice none 0 0, .slice none 0 0], .int .i64 0, .int .i64 0] 8 with
        | some x => Rows.uptoSmall H (x.1 ++ x.2.1)
        | none => false) = true := by kernel_rfl
      split at hh
      · rename_i x hx
        exact ⟨x.1, x.2.1, x.2.2, DataW.Whole_of_whole hx, rfl, hh⟩
      · cases hh⟩)
    exact ⟨w, tape, i, a1, a2, a3, a4, ⟨⟨a5.2, a5.1⟩, a6⟩, a7⟩
  · intro W base args ds gs before hval0 hW hk hsz hL
    have hg : gs = [] := by
      obtain ⟨p, q, _, hV, _⟩ := hW
      exact (trodVars_none hV).1
    subst hg
    have hb : blkA ds ≤ 1048576 := by
      have h := of_decide_eq_true hk
      rw [List.append_nil, bulkA] at h
      exact h
    rw [at_F]
    exact law_contract_bulk (s := Rows.typesPrintedSpec) (n := 1048576) [25, 22, 23, 77, 45, 53, 42, 38, 43, 51, 49, 55, 3, 4, 9] (by kernel_rfl) (gl_of hL) laidOut (by kernel_rfl) (fun t ht => readable t ht) rfl (fun ds h => by
      match ds, h with
      | [d1, d2, d3], _ => rfl) (tb := 4) (by kernel_rfl) Tryz.underlying4 hok args ds [] before hval0 hW hb hsz

theorem over : Rows.typesPrintedUptoRow.holds Tryz.pinned (Rows.OpenSpec.upto Rows.typesPrintedSpec) :=
  holds_of_cond_leaving 5 Tryz.f5 rfl rfl rfl rfl rfl rfl rfl ⟨rfl, rfl, rfl, rfl, rfl⟩ rfl rfl rfl rfl rfl (by kernel_rfl) Tryz.func5 (by kernel_rfl)
    (of_decide_eq_true (by kernel_rfl)) (by unfold Func.isWrapper; first | (rw [if_pos (by decide +kernel)]; kernel_rfl) | (rw [if_neg (by decide +kernel)]; exact ⟨rfl, rfl⟩))
    (fun os started H enc _ F => leaving_of_handed (lifted os started H enc F))

theorem proved : Rows.TypesPrintedUptoCardSaid :=
  tied_goes .later [.handle] true (true, "6b34a234941d0e0ef2c5dc6021a67d54e90ed853510353d8c43a671eae467006") true
    over (by kernel_rfl) typesPrintedUpto_row_tie rfl ⟨rfl, rfl⟩ (by kernel_rfl) rfl
    (fun f fn hf hfn => by
      obtain rfl : f = 5 := Option.some.inj ((show Tryz.prog.funcNamed Rows.typesPrintedUptoRow.func = some 5 by kernel_rfl).symm.trans hf) |>.symm
      obtain rfl : fn = Tryz.f5 := (Option.some.inj (Tryz.func5.symm.trans hfn)).symm
      exact ⟨by kernel_rfl, fun j t ht => by
        have h : (Tryz.f5.params.toList.all fun t => !Tryz.prog.wantsStandIn t) = true := by kernel_rfl
        have := List.all_eq_true.1 h t (by rw [Array.mem_toList_iff]; exact Array.mem_of_getElem? ht)
        show Tryz.prog.wantsStandIn t = false
        simpa using this⟩)
    (by kernel_rfl)
end Go.Proofs.YthmdmnfojbnobaaGreatDoor.typesPrinted
