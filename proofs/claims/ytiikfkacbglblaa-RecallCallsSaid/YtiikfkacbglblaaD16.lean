/-
  Steps of the proof: contracts of functions and plain facts that the statement rests on.
-/
import Derived.Test.YtiikfkacbglblaaD2
set_option linter.all false
namespace Go.Proofs.Ytiikfkacbglblaa
open Go.Ab
def shNd : Sh := .st [.int .i64, .int .i64, .int .i64, .sl (.int .i64), .sl (.int .i64), .sl (.int .i64)]
def shIn : Sh := .st [.int .i64, .int .i64]
def shGm : Sh := .st [.int .i64, .sl shNd, .sl shIn]
theorem has_nd {d : Dt} (h : shNd.has d) : ∃ x : Nd, d.cells = x.cells := by
  obtain ⟨m, rfl, hm⟩ := has_st h
  obtain ⟨d0, m, rfl, h0, hm⟩ := hasL_cons hm
  obtain ⟨d1, m, rfl, h1, hm⟩ := hasL_cons hm
  obtain ⟨d2, m, rfl, h2, hm⟩ := hasL_cons hm
  obtain ⟨d3, m, rfl, h3, hm⟩ := hasL_cons hm
  obtain ⟨d4, m, rfl, h4, hm⟩ := hasL_cons hm
  obtain ⟨d5, m, rfl, h5, hm⟩ := hasL_cons hm
  obtain rfl := hasL_nil hm
  obtain ⟨n0, e0, _⟩ := has_i64 h0
  obtain ⟨n1, e1, _⟩ := has_i64 h1
  obtain ⟨n2, e2, _⟩ := has_i64 h2
  obtain ⟨l3, e3, _⟩ := has_ints h3
  obtain ⟨l4, e4, _⟩ := has_ints h4
  obtain ⟨l5, e5, _⟩ := has_ints h5
  exact ⟨⟨n0, n1, n2, l3, l4, l5⟩, by simp [cells_agg, Dt.cellsL, e0, e1, e2, e3, e4, e5, Nd.cells, sl]⟩
theorem has_nds {d : Dt} (h : (Sh.sl shNd).has d) : ∃ l : List Nd, d.cells = [.slc (nds l) l.length] := by
  simp only [Sh.has] at h
  obtain ⟨m, rfl, hl, hx⟩ := h
  have : ∃ l : List Nd, l.length = m.length ∧ Dt.cellsL m = nds l := by
    clear hl
    induction m with
    | nil => exact ⟨[], rfl, rfl⟩
    | cons x r ih =>
      obtain ⟨l, h1, h2⟩ := ih fun y hy => hx y (by simp [hy])
      obtain ⟨n, hn⟩ := has_nd (hx x (by simp))
      exact ⟨n :: l, by simp [h1], by simp [Dt.cellsL, hn, h2, nds]⟩
  obtain ⟨l, h1, h2⟩ := this
  exact ⟨l, by simp only [Dt.cells, h2, ← h1]⟩
theorem has_infs {d : Dt} (h : (Sh.sl shIn).has d) : ∃ l : List (Int × Int), d.cells = [.slc (infs l) l.length] := by
  simp only [Sh.has] at h
  obtain ⟨m, rfl, hl, hx⟩ := h
  have : ∃ l : List (Int × Int), l.length = m.length ∧ Dt.cellsL m = infs l := by
    clear hl
    induction m with
    | nil => exact ⟨[], rfl, rfl⟩
    | cons x r ih =>
      obtain ⟨l, h1, h2⟩ := ih fun y hy => hx y (by simp [hy])
      obtain ⟨m, rfl, hm⟩ := has_st (hx x (by simp))
      obtain ⟨d0, m, rfl, h0, hm⟩ := hasL_cons hm
      obtain ⟨d1, m, rfl, g1, hm⟩ := hasL_cons hm
      obtain rfl := hasL_nil hm
      obtain ⟨n0, e0, _⟩ := has_i64 h0
      obtain ⟨n1, e1, _⟩ := has_i64 g1
      exact ⟨(n0, n1) :: l, by simp [h1], by simp [Dt.cellsL, cells_agg, e0, e1, h2, infs]⟩
  obtain ⟨l, h1, h2⟩ := this
  exact ⟨l, by simp only [Dt.cells, h2, ← h1]⟩
/-- A game that came in. -/
theorem has_gm {d : Dt} (h : shGm.has d) : ∃ g : Gm, d.sv = .agg g.cells := by
  obtain ⟨m, rfl, hm⟩ := has_st h
  obtain ⟨d0, m, rfl, h0, hm⟩ := hasL_cons hm
  obtain ⟨d1, m, rfl, h1, hm⟩ := hasL_cons hm
  obtain ⟨d2, m, rfl, h2, hm⟩ := hasL_cons hm
  obtain rfl := hasL_nil hm
  obtain ⟨n0, e0, _⟩ := has_i64 h0
  obtain ⟨l1, e1⟩ := has_nds h1
  obtain ⟨l2, e2⟩ := has_infs h2
  exact ⟨⟨n0, l1, l2⟩, by simp [sv_agg, Dt.cellsL, e0, e1, e2, Gm.cells]⟩
end Go.Proofs.Ytiikfkacbglblaa
