/-
  What came in, as lists of integers and the like.
-/
import Derived.Test.YtffafdbipfadoaaAbQ
set_option linter.all false
namespace Go.Ab
/-- A slice of integers. -/
theorem has_ints {d : Dt} (h : (Sh.sl (.int .i64)).has d) : ∃ l : List Int, d.cells = [.slc (ints l) l.length] ∧ d.sv = .slc (ints l) l.length ∧ l.length ≤ maxLen ∧ ∀ n ∈ l, (Lit.int .i64 n).wf = true := by
  simp only [Sh.has] at h
  obtain ⟨l, rfl, hl, hx⟩ := h
  have : ∃ ns : List Int, l = ns.map (Dt.int .i64) ∧ ∀ n ∈ ns, (Lit.int .i64 n).wf = true := by
    clear hl
    induction l with
    | nil => exact ⟨[], rfl, by simp⟩
    | cons x r ih =>
      obtain ⟨ns, rfl, h2⟩ := ih fun y hy => hx y (by simp [hy])
      obtain ⟨n, rfl, hn⟩ := hx x (by simp)
      exact ⟨n :: ns, rfl, by simpa using ⟨hn, h2⟩⟩
  obtain ⟨ns, rfl, h2⟩ := this
  have hc : ∀ ns : List Int, Dt.cellsL (ns.map (Dt.int .i64)) = ints ns := by
    intro ns
    induction ns with
    | nil => rfl
    | cons n r ih => simp only [List.map_cons, Dt.cellsL, ih, Dt.cells]; rfl
  refine ⟨ns, ?_, ?_, by simpa using hl, h2⟩
  · simp only [Dt.cells, hc, List.length_map]
  · simp only [Dt.sv, Dt.cells, hc, List.length_map]; rfl
theorem has_i64 {d : Dt} (h : (Sh.int .i64).has d) : ∃ n : Int, d.cells = [i64 n] ∧ d.sv = i64 n ∧ -9223372036854775808 ≤ n ∧ n ≤ 9223372036854775807 := by
  simp only [Sh.has] at h
  obtain ⟨n, rfl, hn⟩ := h
  refine ⟨n, rfl, rfl, ?_⟩
  revert hn
  simp [Lit.wf, IntKind.min, IntKind.max, IntKind.signed, IntKind.bits]
theorem has_bool {d : Dt} (h : Sh.bool.has d) : ∃ b, d.cells = [bl b] ∧ d.sv = bl b := by
  simp only [Sh.has] at h
  obtain ⟨b, rfl⟩ := h
  exact ⟨b, rfl, rfl⟩
theorem has_str {d : Dt} (h : Sh.str.has d) : ∃ s, d.cells = [st s] ∧ d.sv = st s ∧ s.size ≤ maxLen := by
  simp only [Sh.has] at h
  obtain ⟨b, rfl, hb⟩ := h
  exact ⟨b, rfl, rfl, hb⟩
theorem hasL_cons {s : Sh} {r : List Sh} {m : List Dt} (h : Sh.hasL (s :: r) m) : ∃ d m', m = d :: m' ∧ s.has d ∧ Sh.hasL r m' := by
  simpa only [Sh.hasL] using h
theorem hasL_nil {m : List Dt} (h : Sh.hasL [] m) : m = [] := by simpa only [Sh.hasL] using h
theorem has_st {l : List Sh} {d : Dt} (h : (Sh.st l).has d) : ∃ m, d = .agg m ∧ Sh.hasL l m := by simpa only [Sh.has] using h
theorem sv_agg (m : List Dt) : (Dt.agg m).sv = .agg (Dt.cellsL m) := rfl
theorem cells_agg (m : List Dt) : (Dt.agg m).cells = Dt.cellsL m := by simp only [Dt.cells]
end Go.Ab
