/-
  Steps of the proof: contracts of functions and plain facts that the statement rests on.
-/
import Derived.Test.YtffafdbipfadoaaC4
set_option linter.all false
namespace Go.Proofs.Ytffafdbipfadoaa
open Go.Ab

structure Good (c : Ck) : Prop where
  n1 : 1 ≤ c.L.length
  n4 : c.L.length ≤ 4
  l : ∀ n ∈ c.L, 0 ≤ n ∧ n ≤ 1000000000
  a0 : 0 ≤ c.a
  a1 : c.a ≤ 10000000
  f0 : 0 ≤ c.f
  f1 : c.f ≤ 10000000
  s0 : 0 ≤ c.s
  s1 : c.s ≤ c.la
  la : c.la ≤ 1000000000000
  t0 : -1 ≤ c.t
  t1 : c.t < c.L.length
  fa0 : -1 ≤ c.fa
  fa1 : c.fa < c.L.length
  tf : c.t < 0 ∨ c.fa < 0
  ts : 0 ≤ c.t ∨ c.s = 0
  fz : c.fa < 0 ∨ c.L.getD c.fa.toNat 0 = 0

theorem Ck.good (c : Ck) : c.chk = true ↔ Good c := by
  have hchk : c.chk = (c.rule 0 && c.rule 1 && c.rule 2 && c.rule 3 && c.rule 4 && c.rule 5 && c.rule 6 && c.rule 7) := by
    simp [Ck.chk, Bool.and_assoc]
  rw [hchk]
  simp only [Ck.rule, inR, List.all_cons, List.all_nil, Bool.and_true, Bool.and_eq_true, decide_eq_true_eq, Bool.or_eq_true, List.all_eq_true]
  constructor
  · rintro ⟨⟨⟨⟨⟨⟨⟨h0, h1⟩, h2⟩, h3⟩, h4⟩, h5⟩, h6⟩, h7⟩
    constructor <;> first | exact h1 | exact h7 | omega
  · intro h
    obtain ⟨h1, h2, h3, h4, h5, h6, h7, h8, h9, h10, h11, h12, h13, h14, h15, h16, h17⟩ := h
    refine ⟨⟨⟨⟨⟨⟨⟨?_, ?_⟩, ?_⟩, ?_⟩, ?_⟩, ?_⟩, ?_⟩, ?_⟩ <;> first | exact h3 | exact h17 | omega
theorem Good.at {c : Ck} (h : Good c) {k : Nat} (hk : k < c.L.length) : 0 ≤ c.L[k] ∧ c.L[k] ≤ 1000000000 := h.l _ (List.getElem_mem hk)

def Ck.z : Ck := ⟨[], 0, 0, 0, 0, 0, 0⟩
def Ck.used (c : Ck) (now : Int) : Int := max 0 (now - c.s - c.f)
def Ck.start (c : Ck) (p now : Int) : Ck × Int :=
  if c.tim now ≠ 0 then (.z, c.tim now) else if c.ste false ≠ 0 then (.z, c.ste false) else if 0 ≤ p ∧ p < c.L.length then ({ c with t := p, s := now, la := now }, 0) else (.z, 2)
def Ck.stop (c : Ck) (now : Int) : Ck × Int :=
  if c.tim now ≠ 0 then (.z, c.tim now) else if c.ste true ≠ 0 then (.z, c.ste true) else
  if c.L.getD c.t.toNat 0 < c.used now then ({ c with L := c.L.set c.t.toNat 0, fa := c.t, t := -1, s := 0, la := now }, 0)
  else ({ c with L := c.L.set c.t.toNat (min (c.L.getD c.t.toNat 0 - c.used now + c.a) 1000000000), t := -1, s := 0, la := now }, 0)
def Ck.look (c : Ck) (now : Int) : List Int × Int × Int :=
  if c.tim now ≠ 0 then ([], 0, c.tim now) else if c.t < 0 then (c.L, c.fa, 0) else
  (c.L.set c.t.toNat (max 0 (c.L.getD c.t.toNat 0 - c.used now)), if c.L.getD c.t.toNat 0 < c.used now then c.t else c.fa, 0)
def Ck.falls (c : Ck) : Int × Int :=
  if c.chk = false then (0, 13) else if c.ste true ≠ 0 then (0, c.ste true) else
  if 1000000000000 < c.s + c.f + c.L.getD c.t.toNat 0 + 1 then (0, 5) else (c.s + c.f + c.L.getD c.t.toNat 0 + 1, 0)
def Ck.new (L : List Int) (a f : Int) : Ck × Int :=
  if (Ck.mk L a f (-1) 0 0 (-1)).chk = true then (⟨L, a, f, -1, 0, 0, -1⟩, 0) else (.z, 2)

theorem Ck.tim0 {c : Ck} {now : Int} (h : c.tim now = 0) : Good c ∧ 0 ≤ now ∧ now ≤ 1000000000000 ∧ c.la ≤ now := by
  unfold Ck.tim at h
  split at h
  · rename_i hc
    refine ⟨c.good.1 hc, ?_⟩
    split at h
    · split at h <;> omega
    · omega
  · omega
theorem Ck.ste0 {c : Ck} {b : Bool} (h : c.ste b = 0) : c.fa < 0 ∧ b = decide (0 ≤ c.t) := by
  unfold Ck.ste at h
  split at h
  · omega
  · split at h
    · rename_i h1 h2; exact ⟨by omega, h2⟩
    · omega

section
variable {c : Ck} {x : SV} {H : List AO}
theorem sv_eq (c : Ck) : c.sv = .agg [.slc (ints c.L) c.L.length, i64 c.a, i64 c.f, i64 c.t, i64 c.s, i64 c.la, i64 c.fa] := rfl

theorem ok15 (hx : IsI H x c.L) (hl : c.L.length < 4611686018427387904) (p now : Int) : Ok Try.prog 15 [ckx x c, i64 p, i64 now] H (.ret (.tup [(c.start p now).1.sv, i64 (c.start p now).2])) H := by
  refine ok_fn hm Try.func15 c15 (by simp) fun hcl => ?_
  simp -implicitDefEqProofs [i15, r15, ckx, hx.vd, hx.ug, hx.sl, hx.len, hx.cell]
  refine call_go (ok34 (hx.app _) hl now) ?_
  by_cases h0 : c.tim now = 0
  · obtain ⟨hg, g1, g2, g3⟩ := Ck.tim0 h0
    have g4 := hg.n4
    simp -implicitDefEqProofs [h0]
    refine call_go (ok35 (hx.app _) false) ?_
    by_cases h1 : c.ste false = 0
    · simp -implicitDefEqProofs [h1, hx.vd, hx.ug, hx.sl, hx.len]
      rw [wrap_id (by omega) (by omega)]
      refine call_go (ok36 (l := [p]) (own1 (T := 3) rfl rfl) (by simp)) ?_
      by_cases h2 : 0 ≤ p ∧ p < c.L.length
      · have e : inR 0 ((c.L.length : Int) - 1) [p] = true := by simp [inR]; omega
        simp -implicitDefEqProofs [e]
        refine call_go (ok31 (hx.app _) (by omega) (by omega)) ?_
        simp -implicitDefEqProofs [ckx, mine, rowO]
        refine cv_fz 4 hcl rfl ?_
        simp [Ck.start, h0, h1, h2, sv_eq]
      · have e : inR 0 ((c.L.length : Int) - 1) [p] = false := by simp [inR]; omega
        simp -implicitDefEqProofs [e]
        refine cv_fz 4 hcl rfl ?_
        simp [Ck.start, h0, h1, h2, sv_eq, Ck.z, ints]
    · simp -implicitDefEqProofs [h1]
      refine cv_fz 4 hcl rfl ?_
      simp [Ck.start, h0, h1, sv_eq, Ck.z, ints]
  · simp -implicitDefEqProofs [h0]
    refine cv_fz 4 hcl rfl ?_
    simp [Ck.start, h0, sv_eq, Ck.z, ints]

theorem ok16 (hx : IsI H x c.L) (hl : c.L.length < 4611686018427387904) (p now : Int) : Ok Try.prog 16 [ckx x c, i64 p, i64 now] H (.ret (.tup [(c.start p now).1.sv, i64 (c.start p now).2])) H := by
  refine ok_fn hm Try.func16 c16 (by simp) fun hcl => ?_
  simp -implicitDefEqProofs [i16, r16, ckx, hx.vd, hx.ug, hx.sl, hx.len, hx.cell]
  refine call_go (ok37 (hx.app _) hl now) ?_
  by_cases h0 : c.tim now = 0
  · obtain ⟨hg, g1, g2, g3⟩ := Ck.tim0 h0
    have g4 := hg.n4
    simp -implicitDefEqProofs [h0, hx.vd, hx.ug, hx.sl, hx.len]
    have h1 : c.ste false = if 0 ≤ c.fa then 17 else if 0 ≤ c.t then 13 else 0 := by
      simp [Ck.ste]
      split
      · rfl
      · by_cases ht : 0 ≤ c.t
        · simp [ht]
        · simp [ht]
    split
    · rename_i h2
      refine cv_fz 4 hcl rfl ?_
      simp [Ck.start, h0, h1, h2, sv_eq, Ck.z, ints]
    · rename_i h2
      split
      · rename_i h3
        refine cv_fz 4 hcl rfl ?_
        simp [Ck.start, h0, h1, h2, h3, sv_eq, Ck.z, ints]
      · rename_i h3
        split
        · rename_i h4
          refine cv_fz 4 hcl rfl ?_
          simp [Ck.start, h0, h1, h2, h3, show ¬ (0 ≤ p ∧ p < (c.L.length : Int)) by omega, sv_eq, Ck.z, ints]
        · rename_i h4
          refine call_go (ok32 (hx.app _) (by omega)) ?_
          simp -implicitDefEqProofs [ckx, mine, rowO]
          refine cv_fz 4 hcl rfl ?_
          simp [Ck.start, h0, h1, h2, h3, show (0 ≤ p ∧ p < (c.L.length : Int)) by omega, sv_eq]
  · simp -implicitDefEqProofs [h0]
    refine cv_fz 4 hcl rfl ?_
    simp [Ck.start, h0, sv_eq, Ck.z, ints]
theorem used_wrap {c : Ck} (hg : Good c) {now : Int} (g1 : c.la ≤ now) (g2 : now ≤ 1000000000000) : max 0 (IntKind.i64.wrap (IntKind.i64.wrap (now - c.s) - c.f)) = c.used now := by
  obtain ⟨g3, g4, g5, g6, g7, g8, g9, g10, g11, g12, g13, g14, g15, g16, g17, g18, g19⟩ := hg
  rw [wrap_id (n := now - c.s) (by omega) (by omega), wrap_id (by omega) (by omega), Ck.used]
theorem used_le {c : Ck} (hg : Good c) {now : Int} (g1 : c.la ≤ now) (g2 : now ≤ 1000000000000) : 0 ≤ c.used now ∧ c.used now ≤ 1000000000000 := by
  obtain ⟨g3, g4, g5, g6, g7, g8, g9, g10, g11, g12, g13, g14, g15, g16, g17, g18, g19⟩ := hg
  unfold Ck.used; omega

theorem ok38 (hx : IsI H x c.L) (hg : Good c) (ht : 0 ≤ c.t) (now : Int) (g1 : c.la ≤ now) (g2 : now ≤ 1000000000000) : Ok Try.prog 38 [ckx x c, i64 now] H (.ret (bl (decide (c.L.getD c.t.toNat 0 < c.used now)))) H := by
  refine ok_fn hm Try.func38 c38 (by simp) fun hcl => ?_
  have e := used_wrap hg g1 g2
  obtain ⟨g3, g4, g5, g6, g7, g8, g9, g10, g11, g12, g13, g14, g15, g16, g17, g18, g19⟩ := hg
  have hk : c.t.toNat < c.L.length := by omega
  simp -implicitDefEqProofs [i38, r38, ckx, hx.vd, hx.ug, hx.sl, hx.len, hx.cell, ht, g14, hx.vA _ hk, hx.okA _ hk]
  refine callq_go (fun _ => ok39 (c := c) hx.cell now) ?_
  simp -implicitDefEqProofs [hx.vd, hx.ug, hx.sl, hx.len, ht, g14, hx.vA _ hk, hx.okA _ hk]
  refine cv_fz 1 hcl rfl ?_
  simp [e, hk]
theorem ok18 (hx : IsI H x c.L) (hl : c.L.length < 4611686018427387904) (now : Int) : Ok Try.prog 18 [ckx x c, i64 now] H (.ret (.tup [(c.stop now).1.sv, i64 (c.stop now).2])) H := by
  refine ok_fn hm Try.func18 c18 (by simp) fun hcl => ?_
  simp -implicitDefEqProofs [i18, r18, ckx, hx.vd, hx.ug, hx.sl, hx.len, hx.cell]
  refine call_go (ok37 (hx.app _) hl now) ?_
  by_cases h0 : c.tim now = 0
  · obtain ⟨hg, g1, g2, g3⟩ := Ck.tim0 h0
    have g4 := hg.n4
    simp -implicitDefEqProofs [h0, hx.vd, hx.ug, hx.sl, hx.len]
    have h1 : c.ste true = if 0 ≤ c.fa then 17 else if c.t < 0 then 13 else 0 := by
      simp [Ck.ste]
      split
      · rfl
      · by_cases ht : 0 ≤ c.t
        · simp [ht, show ¬ c.t < 0 by omega]
        · simp [ht, show c.t < 0 by omega]
    split
    · rename_i h2
      refine cv_fz 4 hcl rfl ?_
      simp [Ck.stop, h0, h1, h2, sv_eq, Ck.z, ints]
    · rename_i h2
      split
      · rename_i h3
        refine cv_fz 4 hcl rfl ?_
        simp [Ck.stop, h0, h1, h2, h3, sv_eq, Ck.z, ints]
      · rename_i h3
        refine call_go (ok32 (hx.app _) (by omega)) ?_
        simp -implicitDefEqProofs [ckx, mine, rowO]
        refine callq_go (fun _ => ok40 (c := c) (by rfl) now) ?_
        have e := used_wrap hg g3 g2
        have e' := used_le hg g3 g2
        have ht : 0 ≤ c.t := by omega
        have htl := hg.t1
        have hk : c.t.toNat < c.L.length := by omega
        have hat := hg.at hk
        have ha := hg.a0
        have ha' := hg.a1
        simp -implicitDefEqProofs [ckx, mine, e, ht, htl, hk, ints_set hk]
        refine ⟨by omega, ?_⟩
        split
        · rename_i h4
          refine ⟨by omega, cv_fz 4 hcl rfl ?_⟩
          simp [Ck.stop, h0, h1, h2, h3, h4, hk, sv_eq]
        · rename_i h4
          refine ⟨by omega, by omega, cv_fz 4 hcl rfl ?_⟩
          rw [wrap_id (n := c.L[c.t.toNat] - c.used now) (by omega) (by omega), wrap_id (by omega) (by omega)]
          simp [Ck.stop, h0, h1, h2, h3, h4, hk, sv_eq]
  · simp -implicitDefEqProofs [h0]
    refine cv_fz 4 hcl rfl ?_
    simp [Ck.stop, h0, sv_eq, Ck.z, ints]

theorem ste_true (c : Ck) : c.ste true = if 0 ≤ c.fa then 17 else if c.t < 0 then 13 else 0 := by
  simp [Ck.ste]
  split
  · rfl
  · by_cases ht : 0 ≤ c.t
    · simp [ht, show ¬ c.t < 0 by omega]
    · simp [ht, show c.t < 0 by omega]

end
end Go.Proofs.Ytffafdbipfadoaa
