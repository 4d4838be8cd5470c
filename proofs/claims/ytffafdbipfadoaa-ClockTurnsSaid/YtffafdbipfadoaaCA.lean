/-
  Steps of the proof: contracts of functions and plain facts that the statement rests on.
-/
import Derived.Test.YtffafdbipfadoaaC9
import Derived.Test.YtffafdbipfadoaaAbS
set_option linter.all false
namespace Go.Proofs.Ytffafdbipfadoaa
open Go.Ab
/-- A clock that came in. -/
theorem has_ck {d : Dt} (h : (Sh.st [.sl (.int .i64), .int .i64, .int .i64, .int .i64, .int .i64, .int .i64, .int .i64]).has d) : ∃ c : Ck, d.sv = c.sv ∧ c.L.length ≤ maxLen ∧
    (∀ n ∈ c.L, (Lit.int .i64 n).wf = true) := by
  obtain ⟨m, rfl, hm⟩ := has_st h
  obtain ⟨d0, m, rfl, h0, hm⟩ := hasL_cons hm
  obtain ⟨d1, m, rfl, h1, hm⟩ := hasL_cons hm
  obtain ⟨d2, m, rfl, h2, hm⟩ := hasL_cons hm
  obtain ⟨d3, m, rfl, h3, hm⟩ := hasL_cons hm
  obtain ⟨d4, m, rfl, h4, hm⟩ := hasL_cons hm
  obtain ⟨d5, m, rfl, h5, hm⟩ := hasL_cons hm
  obtain ⟨d6, m, rfl, h6, hm⟩ := hasL_cons hm
  obtain rfl := hasL_nil hm
  obtain ⟨l, e0, _, hl, hw⟩ := has_ints h0
  obtain ⟨n1, e1, _, _⟩ := has_i64 h1
  obtain ⟨n2, e2, _, _⟩ := has_i64 h2
  obtain ⟨n3, e3, _, _⟩ := has_i64 h3
  obtain ⟨n4, e4, _, _⟩ := has_i64 h4
  obtain ⟨n5, e5, _, _⟩ := has_i64 h5
  obtain ⟨n6, e6, _, _⟩ := has_i64 h6
  refine ⟨⟨l, n1, n2, n3, n4, n5, n6⟩, ?_, hl, hw⟩
  simp [sv_agg, Dt.cellsL, e0, e1, e2, e3, e4, e5, e6, Ck.sv, ckx]
end Go.Proofs.Ytffafdbipfadoaa
