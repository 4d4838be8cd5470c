/-
  Steps of the proof: contracts of functions and plain facts that the statement rests on.
-/
import Derived.Test.YtiikfkacbglblaaD15
import Derived.Test.YtiikfkacbglblaaD17
set_option linter.all false
namespace Go.Proofs.Ytiikfkacbglblaa
open Go.Ab
section
variable {H : List AO} {g : Gm}
theorem ok57 : Ok Try.prog 57 [g.wp] H (.ret (sl g.wk.2.P)) H := by
  refine ok_fn hm Try.func57 c57 (by simp) fun hcl => ?_
  simp -implicitDefEqProofs [i57, r57, Gm.wp, sl]
  exact cv_id
theorem ok52 : Ok Try.prog 52 [g.wp] H (.ret (sl g.wk.2.D)) H := by
  refine ok_fn hm Try.func52 c52 (by simp) fun hcl => ?_
  simp -implicitDefEqProofs [i52, r52, Gm.wp, sl]
  exact cv_id
/-- What a walk gives: an error, or what is found. -/
def Gm.out (g : Gm) (z v : SV) : SV := if g.formE = 0 then .tup [v, i64 0] else .tup [z, i64 g.formE]
theorem walked_err (h : g.formE ≠ 0) : ∃ p, g.walked = .tup [p, i64 g.formE] ∧ p.under 0 = true := by
  unfold Gm.walked Gm.formE at *
  by_cases h0 : g.err0 = 0
  · have h1 : ¬ g.err0 ≠ 0 := by simpa using h0
    rw [if_neg h1] at h ⊢
    rw [if_neg h1]
    exact ⟨_, rfl, by simp [Gm.wp, sl, SV.underL, nds_under, infs_under]⟩
  · have h1 : g.err0 ≠ 0 := h0
    rw [if_pos h1, if_pos h1]
    exact ⟨_, rfl, rfl⟩
theorem walked_ok (h : g.formE = 0) : g.walked = .tup [g.wp, i64 0] := by
  unfold Gm.walked Gm.formE at *
  by_cases h0 : g.err0 = 0
  · have h1 : ¬ g.err0 ≠ 0 := by simpa using h0
    rw [if_neg h1] at h ⊢
    rw [h]
  · have h1 : g.err0 ≠ 0 := h0
    rw [if_pos h1] at h
    exact (h0 h).elim
theorem ok51 {k : FuncId} {v : SV} (hv : v.under 0 = true) (hk : ∀ H, Ok Try.prog k [g.wp] H (.ret v) H) : Ok Try.prog 51 [.agg g.cells, .fn (.func k) [] []] H (.ret (g.out nl v)) H := by
  refine ok_fn hm Try.func51 c51 (by simp) fun hcl => ?_
  simp -implicitDefEqProofs [i51, r51, Gm.cells]
  have hh := fun H => ok38 (H := H) (g := g)
  simp only [Gm.cells] at hh
  refine call_go (hh _) ?_
  by_cases h : g.formE = 0
  · rw [walked_ok h]
    simp -implicitDefEqProofs
    refine call_go (hk _) ?_
    simp -implicitDefEqProofs
    refine cv_fz 2 hcl rfl ?_
    have : ∀ L, SV.fz H.length [] L 1 v = v := fun L => fz_under (SV.under_mono (Nat.zero_le _) v hv)
    simp [Gm.out, h, this]
  · obtain ⟨p, e, _⟩ := walked_err h
    rw [e]
    simp -implicitDefEqProofs [h]
    refine cv_fz 2 hcl rfl ?_
    simp [Gm.out, h]
theorem ok30 : Ok Try.prog 30 [.agg g.cells] H (.ret (g.out nl (sl g.wk.2.P))) H := by
  refine ok_fn hm Try.func30 c30 (by simp) fun hcl => ?_
  simp -implicitDefEqProofs [i30, r30, Gm.cells]
  have hh := fun H => ok51 (H := H) (g := g) (k := 57) (v := sl g.wk.2.P) (by simp [sl]) (fun H => ok57)
  simp only [Gm.cells] at hh
  refine call_go (hh _) ?_
  unfold Gm.out
  by_cases h : g.formE = 0
  · simp -implicitDefEqProofs [h]
    exact cv_fz 4 hcl rfl (by simp [sl])
  · simp -implicitDefEqProofs [h]
    exact cv_fz 4 hcl rfl (by simp)
theorem ok20 : Ok Try.prog 20 [.agg g.cells] H (.ret (g.out nl (sl g.wk.2.D))) H := by
  refine ok_fn hm Try.func20 c20 (by simp) fun hcl => ?_
  simp -implicitDefEqProofs [i20, r20, Gm.cells]
  have hh := fun H => ok51 (H := H) (g := g) (k := 52) (v := sl g.wk.2.D) (by simp [sl]) (fun H => ok52)
  simp only [Gm.cells] at hh
  refine call_go (hh _) ?_
  unfold Gm.out
  by_cases h : g.formE = 0
  · simp -implicitDefEqProofs [h]
    exact cv_fz 4 hcl rfl (by simp [sl])
  · simp -implicitDefEqProofs [h]
    exact cv_fz 4 hcl rfl (by simp)
end
end Go.Proofs.Ytiikfkacbglblaa
