/-
  'parlour/..PackTables' returns true for every input and leaves its arguments as they were; no condition.
-/
import Derived.Test.YtoghpbjllompaaaRows
import Derived.Test.YtoghpbjllompaaaPart3
set_option linter.all false
namespace Go.Proofs.Ytoghpbjllompaaa.packTables
open Go.Ab Go.ChangeShapes Go.WideShapes Go.ChangeAt Go.RowKit
theorem own : ownKnob Try.prog.godebug = none := by kernel_rfl
theorem laidOut : laidOutB Try.prog = true := by kernel_rfl
def shs : List Sh := [.sl (.int .i64), .int .i64, .int .i64, .int .i64, .sl (.int .u8)]

theorem readable : ∀ t ∈ Try.f9.params.toList, Try.prog.readableRec t = true ∧ t < Try.prog.types.size := by
  have h : (Try.f9.params.toList.all fun t => Try.prog.readableRec t && decide (t < Try.prog.types.size)) = true := by kernel_rfl
  intro t ht
  have := List.all_eq_true.1 h t ht
  simpa using this
theorem hok : ∀ dts, Sh.hasL shs dts → Sh.fitL shs dts → Ok Try.prog 9 (dts.map Dt.sv) [] (.ret (bl true)) [] := by
  intro dts hm hf
  obtain ⟨d0, m0, rfl, h0, hm⟩ := hasL_cons hm
  obtain ⟨d1, m1, rfl, h1, hm⟩ := hasL_cons hm
  obtain ⟨d2, m2, rfl, h2, hm⟩ := hasL_cons hm
  obtain ⟨d3, m3, rfl, h3, hm⟩ := hasL_cons hm
  obtain ⟨d4, m4, rfl, h4, hm⟩ := hasL_cons hm
  obtain rfl := hasL_nil hm
  unfold shs at hf
  simp only [Sh.fitL] at hf
  obtain ⟨l4, _, e4, b4, q4⟩ := has_byts h4
  obtain ⟨n3, _, e3, q3⟩ := has_i64 h3
  obtain ⟨n2, _, e2, q2⟩ := has_i64 h2
  obtain ⟨n1, _, e1, q1⟩ := has_i64 h1
  obtain ⟨l0, _, e0, b0, _⟩ := has_ints h0
  have hb := Rc.ints_fit e0 hf.1 h0
  unfold reachBytes at hb
  simp only [List.map_cons, List.map_nil, e0, e1, e2, e3, e4]
  exact Rc.ok9 (by omega) q4 n1 n2 n3


set_option maxRecDepth 100000 in
theorem lifted (os : Os) (started : os.Started) (H : Type) (enc : TypeId × Value → H) :
    ReturnsInHanded {} Try.checked os 9 .any (Rows.packTablesSpec.pre6 enc Try.prog Try.f9 Rows.packTablesRow.domain false) (Rows.packTablesSpec.post enc Try.prog Try.f9 false true false false) := by
  refine returnsInHanded_of_change_sized (C := Try.checked) own started (by kernel_rfl) Try.func9
    (ChangeSpec.witness6 (enc := enc) (C := Try.checked) false ⟨#[], #[.slice none 0 0, .int .i64 0, .int .i64 0, .int .i64 0, .slice none 0 0], []⟩ 8 (by kernel_rfl) (by kernel_rfl) (by kernel_rfl) (by kernel_rfl)) ?_
  intro W base args ds gs before hval0 hW hcnd hsz _
  exact law_contract_sized (s := Rows.packTablesSpec) shs laidOut (by kernel_rfl) (by kernel_rfl) (fun t ht => readable t ht) rfl (fun ds h => by
    match ds, h with
    | [d1, d2, d3, d4, d5], _ => rfl) (tb := 4) (by kernel_rfl) Try.underlying4 hok args ds gs before hval0 hW hsz

theorem over : Rows.packTablesRow.holds Try.pinned (OpenSpec.ofChange Rows.packTablesSpec) :=
  OpenClaim.holds_of_wide 9 Try.f9 rfl rfl rfl rfl rfl rfl rfl ⟨rfl, rfl, rfl, rfl, rfl⟩ rfl rfl rfl rfl rfl (by kernel_rfl) Try.func9 (by kernel_rfl)
    (of_decide_eq_true (by kernel_rfl)) (by unfold Func.isWrapper; first | (rw [if_pos (by decide +kernel)]; kernel_rfl) | (rw [if_neg (by decide +kernel)]; exact ⟨rfl, rfl⟩))
    (fun os started H enc _ => lifted os started H enc)

theorem proved : Rows.PackTablesSaid :=
  over
end Go.Proofs.Ytoghpbjllompaaa.packTables
