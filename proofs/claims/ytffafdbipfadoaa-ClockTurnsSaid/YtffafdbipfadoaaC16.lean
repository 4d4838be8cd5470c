/-
  Steps of the proof: contracts of functions and plain facts that the statement rests on.
-/
import Derived.Test.YtffafdbipfadoaaC15
set_option linter.all false
namespace Go.Proofs.Ytffafdbipfadoaa
open Go.Ab
section
variable {H : List AO}
set_option maxRecDepth 10000 in
theorem loop6 {c : Ck} {A B SL : List Int} {rS : List SV} {y at_ : Int} (hn : c.L.length < 4611686018427387904) (hA : A.length = c.L.length) (hB : B.length = c.L.length) (hS : SL.length = c.L.length)
    (hle : ∀ (i : Nat) (h : i < c.L.length), B[i]'(by omega) ≤ A[i]'(by omega)) (hne : ∀ (i : Nat) (h : i < c.L.length), ¬ (i : Int) = c.t → A[i]'(by omega) = c.L[i] ∧ SL[i]'(by omega) = c.L[i])
    {f2 : Int} {N : Nat} {K : XE → Env → List AO → Prop}
    (hexit : ∀ env, env.get 2 = i64 f2 → env.get 7 = bl true → env.get 8 = .ptr (.own H.length 0 0 0 0) 0 → env.get 13 = .slc (ints B) B.length → env.get 14 = i64 y → env.get 16 = .ptr (.own (H.length + 1) 0 0 0 0) 0 → env.get 18 = i64 at_ →
      K (.exit 0) env (H ++ [⟨c.cells, 24, 0, true⟩, ⟨.slc (ints SL) c.L.length :: rS, 24, 0, true⟩])) :
    ∀ (n i : Nat) (env : Env), i + n = c.L.length → env.get 2 = i64 f2 → env.get 7 = bl true → env.get 8 = .ptr (.own H.length 0 0 0 0) 0 → env.get 10 = .slc (ints A) A.length → env.get 13 = .slc (ints B) B.length → env.get 14 = i64 y →
      env.get 16 = .ptr (.own (H.length + 1) 0 0 0 0) 0 → env.get 18 = i64 at_ → env.get 20 = i64 i →
      LI Try.prog N drawB l6_0 env (H ++ [⟨c.cells, 24, 0, true⟩, ⟨.slc (ints SL) c.L.length :: rS, 24, 0, true⟩]) K := by
  intro n
  induction n with
  | zero =>
    intro i env hi e2 e7 e8 e10 e13 e14 e16 e18 e20
    refine li_go hm l6_0.eq_1 ?_
    have e : i = c.L.length := by omega
    simp -implicitDefEqProofs [e10, e20, e, hA]
    exact hexit _ (by simp [e2]) (by simp [e7]) (by simp [e8]) (by simp [e13]) (by simp [e14]) (by simp [e16]) (by simp [e18])
  | succ n ih =>
    intro i env hi e2 e7 e8 e10 e13 e14 e16 e18 e20
    refine li_go hm l6_0.eq_1 ?_
    have hlt : i < c.L.length := by omega
    have h1 := hle i hlt
    have h2 := hne i hlt
    have key : ∀ env', env'.get 2 = i64 f2 → env'.get 7 = bl true → env'.get 8 = .ptr (.own H.length 0 0 0 0) 0 → env'.get 10 = .slc (ints A) A.length → env'.get 13 = .slc (ints B) B.length → env'.get 14 = i64 y →
      env'.get 16 = .ptr (.own (H.length + 1) 0 0 0 0) 0 → env'.get 18 = i64 at_ → env'.get 20 = i64 ((i + 1 : Nat) : Int) →
      LI Try.prog N drawB l6_0 env' (H ++ [⟨c.cells, 24, 0, true⟩, ⟨.slc (ints SL) c.L.length :: rS, 24, 0, true⟩]) K := fun env' => ih (i + 1) env' (by omega)
    have hAi : i < A.length := by omega
    have hBi : i < B.length := by omega
    have hSi : i < SL.length := by omega
    by_cases hc : (i : Int) = c.t
    · simp -implicitDefEqProofs [e2, e7, e8, e10, e13, e14, e16, e18, e20, hA, hB, hlt, hAi, hBi, hSi, Ck.cells, hc.symm, show ¬ A[i] < B[i] by omega]
      simp only [Ck.cells, hc.symm] at key
      refine ⟨by omega, ?_⟩
      try refine ⟨by omega, ?_⟩
      refine key _ ?_ ?_ ?_ ?_ ?_ ?_ ?_ ?_ ?_
      · simp [e2]
      · simp [e7]
      · simp [e8]
      · simp [e10, hA]
      · simp [e13, hB]
      · simp [e14]
      · simp [e16]
      · simp [e18]
      · simp [wrap_suc (show i < 9223372036854775807 by omega)]
    · obtain ⟨h3, h4⟩ := h2 hc
      simp -implicitDefEqProofs [e2, e7, e8, e10, e13, e14, e16, e18, e20, hA, hB, hlt, hAi, hBi, hSi, Ck.cells, hc, show ¬ c.L[i] < B[i] by omega, h3, h4]
      refine ⟨by omega, ?_⟩
      repeat (refine ⟨fun h => ⟨h, by omega⟩, ?_⟩)
      refine key _ ?_ ?_ ?_ ?_ ?_ ?_ ?_ ?_ ?_
      · simp [e2]
      · simp [e7]
      · simp [e8]
      · simp [e10, hA]
      · simp [e13, hB]
      · simp [e14]
      · simp [e16]
      · simp [e18]
      · simp [wrap_suc (show i < 9223372036854775807 by omega)]
theorem minmax (a b : Int) : min a b ≤ max a b := by omega
set_option maxRecDepth 10000 in
/-- ClockLooks. -/
theorem ok6 (hK : Ok Try.prog 4 [] H (.ret (bl true)) H) {l : List Int} (first second : Int) : Ok Try.prog 6 [.slc (ints l) l.length, i64 first, i64 second] H (.ret (bl true)) H := by
  refine ok_fn hm Try.func6 c6 (by simp) fun hcl => ?_
  simp -implicitDefEqProofs [i6, r6]
  refine call_go hK ?_
  by_cases h1 : 20 < (l.length : Int)
  · simp -implicitDefEqProofs [h1]
    exact cv_id
  simp -implicitDefEqProofs [h1]
  refine call_go (ok28 (l := l) (by omega)) ?_
  have hR := run_runF l
  generalize runC l = c at hR ⊢
  simp -implicitDefEqProofs [sv_eq]
  refine call_go (ok29 first 8001 (by omega) (by omega)) ?_
  simp -implicitDefEqProofs
  refine call_go (ok29 second 8001 (by omega) (by omega)) ?_
  have b1 := mod_bd first 8001 (by omega)
  have b2 := mod_bd second 8001 (by omega)
  generalize first % 8001 = x at b1 ⊢
  generalize second % 8001 = z at b2 ⊢
  have w1 : IntKind.i64.wrap (1000 + x) = 1000 + x := wrap_id (by omega) (by omega)
  have w2 : IntKind.i64.wrap (1000 + z) = 1000 + z := wrap_id (by omega) (by omega)
  simp -implicitDefEqProofs [w1, w2]
  obtain ⟨f1, hf1, m1, m3⟩ : ∃ f1, 1000 + min x z = f1 ∧ 1000 ≤ f1 ∧ f1 ≤ 1000 + max x z := ⟨_, rfl, by omega, by omega⟩
  obtain ⟨f2, hf2, m2⟩ : ∃ f2, 1000 + max x z = f2 ∧ f2 ≤ 9000 := ⟨_, rfl, by omega⟩
  rw [hf2] at m3
  rw [hf1, hf2]
  have hl : c.L.length < 4611686018427387904 := by have := hR.g.n4; omega
  have he := hR.e
  have hf := hR.f
  have hf0 := hR.g.f0
  have ha := hR.a
  have ha0 := hR.g.a0
  have hk := hR.k
  have ht := hR.t
  have u1 := hR.used (t := f1)
  have u2 := hR.used (t := f2)
  have k1 := hR.look (t := f1) (by omega) (by omega)
  have k2 := hR.look (t := f2) (by omega) (by omega)
  have k3 := hR.stop (t := f2) (by omega) (by omega)
  have k5 := hR.falls (by omega)
  have hat : 1000 + c.f + c.L[c.t.toNat] + 1 ≤ 10000 := by omega
  have k6 := hR.look (t := 1000 + c.f + c.L[c.t.toNat]) (by omega) (by omega)
  have k7 := hR.look (t := 1000 + c.f + c.L[c.t.toNat] + 1) (by omega) (by omega)
  rw [if_neg (by rw [hR.used]; omega)] at k6
  rw [if_pos (by rw [hR.used]; omega)] at k7
  have htl := hR.g.t1
  have w7 : IntKind.i64.wrap (1000 + c.f + c.L[c.t.toNat]) = 1000 + c.f + c.L[c.t.toNat] := wrap_id (by omega) (by omega)
  have hmono : c.used f1 ≤ c.used f2 := by rw [u1, u2]; omega
  refine call_go (ok19 (c := c) (isv c _) hl f1) ?_
  rw [k1]
  simp -implicitDefEqProofs [lookV]
  refine call_go (ok19 (c := c) (isv c _) hl f2) ?_
  rw [k2]
  simp -implicitDefEqProofs [lookV]
  refine call_go (ok17 (c := c) (isv c _) hl f2) ?_
  by_cases hu : c.L[c.t.toNat] < c.used f2
  · rw [k3, if_pos hu]
    simp -implicitDefEqProofs [sv_eq, hu]
    refine call_go (ok21 (c := c) (isv c _) hl) ?_
    rw [k5]
    simp -implicitDefEqProofs
    rw [if_neg (by rintro ⟨g1, g2⟩; split at g1 <;> split at g2 <;> omega)]
    refine loop6 (c := c) (SL := c.L.set c.t.toNat 0) (rS := [i64 c.a, i64 c.f, i64 (-1), i64 0, i64 f2, i64 c.t]) (A := c.L.set c.t.toNat (max 0 (c.L[c.t.toNat] - c.used f1))) (B := c.L.set c.t.toNat (max 0 (c.L[c.t.toNat] - c.used f2))) (y := c.t) (at_ := 1000 + c.f + c.L[c.t.toNat] + 1) (f2 := f2)
      hl (by simp) (by simp) (by simp) ?_ ?_ (fun env e2 e7 e8 e13 e14 e16 e18 => ?_) c.L.length 0 _ (by omega) ?_ ?_ ?_ ?_ ?_ ?_ ?_ ?_ ?_
    · intro i hi
      simp only [List.getElem_set]
      split <;> omega
    · intro i hi hne
      have : ¬ c.t.toNat = i := by omega
      simp [List.getElem_set, this]
    · simp -implicitDefEqProofs [e2, e7, e8, e13, e14, e16, e18, Ck.cells, ht, htl, hk, w7, show ¬ c.t < 0 by omega, show 1000 + c.f + c.L[c.t.toNat] + 1 ≤ f2 by omega]
      repeat (refine ⟨by omega, ?_⟩)
      refine call_go (ok19 (c := c) (isv c _) hl (1000 + c.f + c.L[c.t.toNat])) ?_
      rw [k6]
      simp -implicitDefEqProofs [lookV, e2, e7, e8, e13, e14, e16, e18]
      refine call_go (ok19 (c := c) (isv c _) hl (1000 + c.f + c.L[c.t.toNat] + 1)) ?_
      rw [k7]
      simp -implicitDefEqProofs [lookV, e2, e7, e8, e13, e14, e16, e18]
      exact cv_fz 1 hcl rfl (by simp)
    · simp
    · simp
    · simp
    · simp
    · simp
    · simp [hu]
    · simp
    · simp
    · simp
  · rw [k3, if_neg hu]
    simp -implicitDefEqProofs [sv_eq, hu]
    refine call_go (ok21 (c := c) (isv c _) hl) ?_
    rw [k5]
    simp -implicitDefEqProofs
    rw [if_neg (by rintro ⟨g1, g2⟩; split at g1 <;> split at g2 <;> omega)]
    refine loop6 (c := c) (SL := c.L.set c.t.toNat (min (c.L[c.t.toNat] - c.used f2 + c.a) 1000000000)) (rS := [i64 c.a, i64 c.f, i64 (-1), i64 0, i64 f2, i64 (-1)]) (A := c.L.set c.t.toNat (max 0 (c.L[c.t.toNat] - c.used f1))) (B := c.L.set c.t.toNat (max 0 (c.L[c.t.toNat] - c.used f2))) (y := -1) (at_ := 1000 + c.f + c.L[c.t.toNat] + 1) (f2 := f2)
      hl (by simp) (by simp) (by simp) ?_ ?_ (fun env e2 e7 e8 e13 e14 e16 e18 => ?_) c.L.length 0 _ (by omega) ?_ ?_ ?_ ?_ ?_ ?_ ?_ ?_ ?_
    · intro i hi
      simp only [List.getElem_set]
      split <;> omega
    · intro i hi hne
      have : ¬ c.t.toNat = i := by omega
      simp [List.getElem_set, this]
    · simp -implicitDefEqProofs [e2, e7, e8, e13, e14, e16, e18, Ck.cells, ht, htl, hk, w7, show ¬ 1000 + c.f + c.L[c.t.toNat] + 1 ≤ f2 by omega, show max 0 (c.L[c.t.toNat] - c.used f2) = c.L[c.t.toNat] - c.used f2 by omega, show min (c.L[c.t.toNat] - c.used f2 + c.a) 1000000000 = c.L[c.t.toNat] - c.used f2 + c.a by omega,
        wrap_id (n := c.L[c.t.toNat] - c.used f2 + c.a) (by omega) (by omega)]
      repeat (refine ⟨by omega, ?_⟩)
      refine call_go (ok19 (c := c) (isv c _) hl (1000 + c.f + c.L[c.t.toNat])) ?_
      rw [k6]
      simp -implicitDefEqProofs [lookV, e2, e7, e8, e13, e14, e16, e18]
      refine call_go (ok19 (c := c) (isv c _) hl (1000 + c.f + c.L[c.t.toNat] + 1)) ?_
      rw [k7]
      simp -implicitDefEqProofs [lookV, e2, e7, e8, e13, e14, e16, e18]
      exact cv_fz 1 hcl rfl (by simp)
    · simp
    · simp
    · simp
    · simp
    · simp
    · simp [hu]
    · simp
    · simp
    · simp
end
end Go.Proofs.Ytffafdbipfadoaa
