/-
  Steps of the proof: contracts of functions and plain facts that the statement rests on.
-/
import Derived.Test.YtffafdbipfadoaaC12
import Derived.Test.YtffafdbipfadoaaCA
set_option linter.all false
namespace Go.Proofs.Ytffafdbipfadoaa
open Go.Ab
/-- Turns that came in. -/
theorem has_tks {d : Dt} (h : (Sh.sl (.st [.int .i64, .int .i64, .int .i64])).has d) : ∃ l : List Tk, d.sv = tksv l := by
  simp only [Sh.has] at h
  obtain ⟨m, rfl, hl, hx⟩ := h
  have : ∃ l : List Tk, l.length = m.length ∧ Dt.cellsL m = tks l := by
    clear hl
    induction m with
    | nil => exact ⟨[], rfl, rfl⟩
    | cons x r ih =>
      obtain ⟨l, h1, h2⟩ := ih fun y hy => hx y (by simp [hy])
      obtain ⟨m, rfl, hm⟩ := hx x (by simp)
      obtain ⟨d0, m, rfl, h0, hm⟩ := hasL_cons hm
      obtain ⟨d1, m, rfl, g1, hm⟩ := hasL_cons hm
      obtain ⟨d2, m, rfl, g2, hm⟩ := hasL_cons hm
      obtain rfl := hasL_nil hm
      obtain ⟨n0, e0, _⟩ := has_i64 h0
      obtain ⟨n1, e1, _⟩ := has_i64 g1
      obtain ⟨n2, e2, _⟩ := has_i64 g2
      exact ⟨⟨n0, n1, n2⟩ :: l, by simp [h1], by simp [Dt.cellsL, cells_agg, e0, e1, e2, h2, tks]⟩
  obtain ⟨l, h1, h2⟩ := this
  exact ⟨l, by simp only [Dt.sv, Dt.cells, h2, ← h1, tksv]; rfl⟩
end Go.Proofs.Ytffafdbipfadoaa
