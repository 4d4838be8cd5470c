/-
  Steps of the proof: contracts of functions and plain facts that the statement rests on.
-/
import Derived.Test.YtffafdbipfadoaaC5
set_option linter.all false
namespace Go.Proofs.Ytffafdbipfadoaa
open Go.Ab
section
variable {c : Ck} {x : SV} {H : List AO}
theorem ok17 (hx : IsI H x c.L) (hl : c.L.length < 4611686018427387904) (now : Int) : Ok Try.prog 17 [ckx x c, i64 now] H (.ret (.tup [(c.stop now).1.sv, i64 (c.stop now).2])) H := by
  refine ok_fn hm Try.func17 c17 (by simp) fun hcl => ?_
  simp -implicitDefEqProofs [i17, r17, ckx, hx.vd, hx.ug, hx.sl, hx.len, hx.cell]
  refine call_go (ok34 (hx.app _) hl now) ?_
  by_cases h0 : c.tim now = 0
  · obtain ⟨hg, g1, g2, g3⟩ := Ck.tim0 h0
    have g4 := hg.n4
    have g5 := hg.n1
    simp -implicitDefEqProofs [h0, hx.vd, hx.ug, hx.sl, hx.len]
    refine call_go (ok35 (hx.app _) true) ?_
    by_cases h1 : c.ste true = 0
    · simp -implicitDefEqProofs [h1, hx.vd, hx.ug, hx.sl, hx.len]
      have h1' := h1
      rw [ste_true] at h1'
      have h3 : ¬ c.t < 0 := by
        intro h; rw [if_pos h] at h1'; split at h1' <;> omega
      have h2 : ¬ 0 ≤ c.fa := by
        intro h; rw [if_pos h] at h1'; omega
      refine call_go (ok31 (hx.app _) (by omega) (by omega)) ?_
      have e := used_wrap hg g3 g2
      have e' := used_le hg g3 g2
      have ht : 0 ≤ c.t := by omega
      have htl := hg.t1
      have hk : c.t.toNat < c.L.length := by omega
      have hat := hg.at hk
      have ha := hg.a0
      have ha' := hg.a1
      simp -implicitDefEqProofs [ckx, mine, rowO]
      refine call_go (ok38 (c := c) (own1 (T := 3) rfl rfl) hg ht now g3 g2) ?_
      by_cases h4 : c.L[c.t.toNat] < c.used now
      · simp -implicitDefEqProofs [hk, h4, ht, htl, ints_set hk]
        refine ⟨by omega, cv_fz 4 hcl rfl ?_⟩
        simp [Ck.stop, h0, h1, h4, hk, sv_eq]
      · simp -implicitDefEqProofs [hk, h4, ht, htl, ints_set hk]
        refine ⟨by omega, ?_⟩
        refine callq_go (fun _ => ok39 (c := c) (by rfl) now) ?_
        simp -implicitDefEqProofs [hk, h4, ht, htl, ints_set hk, e]
        rw [wrap_id (n := c.L[c.t.toNat] - c.used now) (by omega) (by omega), wrap_id (by omega) (by omega)]
        refine ⟨by omega, cv_fz 4 hcl rfl ?_⟩
        simp [Ck.stop, h0, h1, h4, hk, sv_eq]
    · simp -implicitDefEqProofs [h1]
      refine cv_fz 4 hcl rfl ?_
      simp [Ck.stop, h0, h1, sv_eq, Ck.z, ints]
  · simp -implicitDefEqProofs [h0]
    refine cv_fz 4 hcl rfl ?_
    simp [Ck.stop, h0, sv_eq, Ck.z, ints]
end
end Go.Proofs.Ytffafdbipfadoaa
