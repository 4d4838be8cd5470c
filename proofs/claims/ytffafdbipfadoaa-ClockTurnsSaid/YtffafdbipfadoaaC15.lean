/-
  Steps of the proof: contracts of functions and plain facts that the statement rests on.
-/
import Derived.Test.YtffafdbipfadoaaC14
set_option linter.all false
namespace Go.Proofs.Ytffafdbipfadoaa
open Go.Ab
/-- A clock whose time runs since b. -/
structure RunF (c : Ck) (b : Int) : Prop where
  g : Good c
  s : c.s = b
  la : c.la = b
  fa : c.fa = -1
  t : 0 ≤ c.t
  a : c.a < 200
  f : c.f < 300
  l : ∀ n ∈ c.L, n < 5000
section
variable {c : Ck} {b t : Int}
theorem RunF.k (h : RunF c b) : c.t.toNat < c.L.length := by have := h.g.t1; have := h.t; omega
theorem RunF.e (h : RunF c b) : 0 ≤ c.L[c.t.toNat]'h.k ∧ c.L[c.t.toNat]'h.k < 5000 := ⟨(h.g.at h.k).1, h.l _ (List.getElem_mem h.k)⟩
theorem RunF.tim (h : RunF c b) (h1 : b ≤ t) (h2 : t ≤ 1000000000000) : c.tim t = 0 := by
  have := h.g.s0
  have := h.s
  have := h.la
  unfold Ck.tim
  rw [if_pos ((Ck.good c).2 h.g), if_pos (by omega), if_neg (by omega)]
theorem RunF.ste (h : RunF c b) : c.ste true = 0 := by
  rw [ste_true, if_neg (by rw [h.fa]; omega), if_neg (by have := h.t; omega)]
theorem RunF.look (h : RunF c b) (h1 : b ≤ t) (h2 : t ≤ 1000000000000) :
    c.look t = (c.L.set c.t.toNat (max 0 (c.L[c.t.toNat]'h.k - c.used t)), if c.L[c.t.toNat]'h.k < c.used t then c.t else -1, 0) := by
  unfold Ck.look
  rw [if_neg (by rw [h.tim h1 h2]; simp), if_neg (by have := h.t; omega), h.fa]
  simp [h.k]
theorem RunF.stop (h : RunF c b) (h1 : b ≤ t) (h2 : t ≤ 1000000000000) :
    c.stop t = if c.L[c.t.toNat]'h.k < c.used t then (⟨c.L.set c.t.toNat 0, c.a, c.f, -1, 0, t, c.t⟩, 0)
      else (⟨c.L.set c.t.toNat (min (c.L[c.t.toNat]'h.k - c.used t + c.a) 1000000000), c.a, c.f, -1, 0, t, -1⟩, 0) := by
  unfold Ck.stop
  rw [if_neg (by rw [h.tim h1 h2]; simp), if_neg (by rw [h.ste]; simp)]
  simp [h.k, h.fa]
theorem RunF.falls (h : RunF c b) (hb : b ≤ 2000000000) : c.falls = (b + c.f + c.L[c.t.toNat]'h.k + 1, 0) := by
  have h3 := h.e
  have h4 := h.f
  have h5 := h.s
  unfold Ck.falls
  have hc := (Ck.good c).2 h.g
  have hk := h.k
  rw [if_neg (by rw [hc]; simp), if_neg (by rw [h.ste]; simp)]
  have e : c.L.getD c.t.toNat 0 = c.L[c.t.toNat] := by simp [hk]
  rw [e, if_neg (by omega), h.s]
theorem RunF.used (h : RunF c b) : c.used t = max 0 (t - b - c.f) := by rw [Ck.used, h.s]
/-- The same, later. -/
def Ck.later (c : Ck) (d : Int) : Ck := { c with s := c.s + d, la := c.la + d }
theorem RunF.later {d : Int} (h : RunF c b) (h0 : 0 ≤ d) (h1 : b + d ≤ 1000000000000) : RunF (c.later d) (b + d) := by
  have g := h.g
  refine ⟨⟨g.n1, g.n4, g.l, g.a0, g.a1, g.f0, g.f1, ?_, ?_, ?_, g.t0, g.t1, g.fa0, g.fa1, g.tf, .inl h.t, g.fz⟩, ?_, ?_, h.fa, h.t, h.a, h.f, h.l⟩
  · show 0 ≤ c.s + d; have := g.s0; omega
  · show c.s + d ≤ c.la + d; have := g.s1; omega
  · show c.la + d ≤ _; have := h.la; omega
  · show c.s + d = _; rw [h.s]
  · show c.la + d = _; rw [h.la]
theorem run_runF (l : List Int) : RunF (runC l) 1000 := by
  obtain ⟨h1, h2, h3, h4, h5, h6, h7, h8, h9⟩ := run_bd l
  exact ⟨run_good l, rfl, rfl, rfl, h8, h5, h7, fun n hn => (h3 n hn).2⟩
theorem used_later {d : Int} : (c.later d).used (t + d) = c.used t := by simp only [Ck.used, Ck.later]; congr 1; omega
end
section
variable {H : List AO}
theorem mod_bd (x n : Int) (h : 1 ≤ n) : 0 ≤ x % n ∧ x % n < n := ⟨Int.emod_nonneg _ (by omega), Int.emod_lt_of_pos _ (by omega)⟩
set_option maxRecDepth 10000 in
theorem ok8 (hK : Ok Try.prog 4 [] H (.ret (bl true)) H) {l : List Int} (now later : Int) : Ok Try.prog 8 [.slc (ints l) l.length, i64 now, i64 later] H (.ret (bl true)) H := by
  refine ok_fn hm Try.func8 c8 (by simp) fun hcl => ?_
  simp -implicitDefEqProofs [i8, r8]
  refine call_go hK ?_
  by_cases h1 : 20 < (l.length : Int)
  · simp -implicitDefEqProofs [h1]
    exact cv_id
  simp -implicitDefEqProofs [h1]
  refine call_go (ok28 (l := l) (by omega)) ?_
  have hR := run_runF l
  generalize runC l = c at hR ⊢
  simp -implicitDefEqProofs [sv_eq]
  refine call_go (ok29 now 8001 (by omega) (by omega)) ?_
  simp -implicitDefEqProofs
  refine call_go (ok29 later 1000000001 (by omega) (by omega)) ?_
  have b1 := mod_bd now 8001 (by omega)
  have b2 := mod_bd later 1000000001 (by omega)
  generalize now % 8001 = x at b1 ⊢
  generalize later % 1000000001 = d at b2 ⊢
  have hs := hR.s
  have hla := hR.la
  have w1 : IntKind.i64.wrap (1000 + x) = 1000 + x := wrap_id (by omega) (by omega)
  have w2 : IntKind.i64.wrap (c.s + d) = c.s + d := wrap_id (by omega) (by omega)
  have w3 : IntKind.i64.wrap (c.la + d) = c.la + d := wrap_id (by omega) (by omega)
  have w4 : IntKind.i64.wrap (1000 + x + d) = 1000 + x + d := wrap_id (by omega) (by omega)
  simp -implicitDefEqProofs [w1, w2, w3]
  have hl : c.L.length < 4611686018427387904 := by have := hR.g.n4; omega
  have hR' := hR.later (d := d) (by omega) (by omega)
  have hu : (c.later d).used (1000 + x + d) = c.used (1000 + x) := used_later
  have k1 := hR.look (t := 1000 + x) (by omega) (by omega)
  have k2 := hR'.look (t := 1000 + x + d) (by omega) (by omega)
  have k3 := hR.stop (t := 1000 + x) (by omega) (by omega)
  have k4 := hR'.stop (t := 1000 + x + d) (by omega) (by omega)
  have k5 := hR.falls (by omega)
  have k6 := hR'.falls (by omega)
  rw [hu] at k2 k4
  have he := hR.e
  have hf := hR.f
  have hf0 := hR.g.f0
  have p1 : ∃ lk fl, c.look (1000 + x) = (lk, fl, 0) ∧ (c.later d).look (1000 + x + d) = (lk, fl, 0) ∧ lk.length < 4611686018427387904 :=
    ⟨_, _, k1, k2, by simp; exact hl⟩
  have p2 : ∃ s : Ck, c.stop (1000 + x) = (s, 0) ∧ (c.later d).stop (1000 + x + d) = (⟨s.L, s.a, s.f, s.t, s.s, s.la + d, s.fa⟩, 0) ∧ s.L.length < 4611686018427387904 ∧ s.la = 1000 + x := by
    rw [k3, k4]
    by_cases h : c.L[c.t.toNat]'hR.k < c.used (1000 + x)
    · rw [if_pos h, if_pos (show (c.later d).L[(c.later d).t.toNat]'hR'.k < c.used (1000 + x) from h)]
      exact ⟨_, rfl, rfl, by simp; exact hl, rfl⟩
    · rw [if_neg h, if_neg (show ¬ (c.later d).L[(c.later d).t.toNat]'hR'.k < c.used (1000 + x) from h)]
      exact ⟨_, rfl, rfl, by simp; exact hl, rfl⟩
  have p3 : ∃ u : Int, c.falls = (u, 0) ∧ (c.later d).falls = (u + d, 0) ∧ 0 ≤ u ∧ u ≤ 10000 := by
    refine ⟨_, k5, ?_, by omega, by omega⟩
    rw [k6]
    have e1 : (c.later d).f = c.f := rfl
    have e2 : (c.later d).L[(c.later d).t.toNat]'hR'.k = c.L[c.t.toNat]'hR.k := rfl
    rw [e1, e2, Prod.mk.injEq]; exact ⟨by omega, rfl⟩
  obtain ⟨lk, fl, q1, q2, q3⟩ := p1
  obtain ⟨s, r1, r2, r3, r4⟩ := p2
  obtain ⟨u, u1, u2, u3, u4⟩ := p3
  have w5 : IntKind.i64.wrap (s.la + d) = s.la + d := wrap_id (by omega) (by omega)
  have w6 : IntKind.i64.wrap (u + d) = u + d := wrap_id (by omega) (by omega)
  refine call_go (ok19 (c := c) (isv c _) hl (1000 + x)) ?_
  rw [q1]
  simp -implicitDefEqProofs [lookV, w4]
  refine call_go (ok19 (c := c.later d) (isv (c.later d) _) hl (1000 + x + d)) ?_
  rw [q2]
  simp -implicitDefEqProofs [lookV, w4]
  refine call_go (ok17 (c := c) (isv c _) hl (1000 + x)) ?_
  rw [r1]
  simp -implicitDefEqProofs [sv_eq, w4]
  refine call_go (ok17 (c := c.later d) (isv (c.later d) _) hl (1000 + x + d)) ?_
  rw [r2]
  simp -implicitDefEqProofs [sv_eq, w4, w5]
  refine call_go (ok21 (c := c) (isv c _) hl) ?_
  rw [u1]
  simp -implicitDefEqProofs
  refine call_go (ok21 (c := c.later d) (isv (c.later d) _) hl) ?_
  rw [u2]
  simp -implicitDefEqProofs
  refine callq_st (fun _ => ok23s (l := lk) (IsI.slc _ _) (IsI.slc _ _) q3) ?_
  simp -implicitDefEqProofs
  have hh := fun H => ok12 (H := H) (a := ⟨s.L, s.a, s.f, s.t, s.s, s.la + d, s.fa⟩) (b := ⟨s.L, s.a, s.f, s.t, s.s, s.la + d, s.fa⟩) (isv _ _) (isv _ _) r3
  simp only [ckx] at hh
  refine callq_st (fun _ => hh _) ?_
  simp -implicitDefEqProofs [w6]
  exact cv_fz 1 hcl rfl (by simp)
end
end Go.Proofs.Ytffafdbipfadoaa
