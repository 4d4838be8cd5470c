/-
  Steps of the proof: contracts of functions and plain facts that the statement rests on.
-/
import Derived.Test.YtffafdbipfadoaaC6
set_option linter.all false
namespace Go.Proofs.Ytffafdbipfadoaa
open Go.Ab
section
variable {c : Ck} {x : SV} {H : List AO}
def lookV (r : List Int × Int × Int) : SV := .tup [.slc (ints r.1) r.1.length, i64 r.2.1, i64 r.2.2]

theorem ok20 (hx : IsI H x c.L) (hl : c.L.length < 4611686018427387904) (now : Int) : Ok Try.prog 20 [ckx x c, i64 now] H (.ret (lookV (c.look now))) H := by
  refine ok_fn hm Try.func20 c20 (by simp) fun hcl => ?_
  simp -implicitDefEqProofs [i20, r20, ckx, hx.vd, hx.ug, hx.sl, hx.len, hx.cell]
  refine call_go (ok37 (hx.app _) hl now) ?_
  by_cases h0 : c.tim now = 0
  · obtain ⟨hg, g1, g2, g3⟩ := Ck.tim0 h0
    have g4 := hg.n4
    simp -implicitDefEqProofs [h0, hx.vd, hx.ug, hx.sl, hx.len, hx.flat, hx.cell, (hx.app _).rowlen, hx.rowlenA, hx.rowA, show c.L.length * 8 ≤ 140737488355328 by omega, show c.L.length ≤ 140737488355328 by omega]
    by_cases ht : 0 ≤ c.t
    · have htl := hg.t1
      have hk : c.t.toNat < c.L.length := by omega
      have hat := hg.at hk
      have e := used_wrap hg g3 g2
      have e' := used_le hg g3 g2
      simp -implicitDefEqProofs only [ht, if_true]
      refine call_go (ok40 (c := c) hx.cell now) ?_
      by_cases h4 : c.L[c.t.toNat] < c.used now
      · simp -implicitDefEqProofs [hk, h4, ht, htl, ints_set hk, e]
        rw [wrap_id (by omega) (by omega)]
        refine ⟨by omega, by omega, cv_fz 4 hcl rfl ?_⟩
        simp [Ck.look, h0, h4, hk, lookV, show ¬ c.t < 0 by omega]
      · simp -implicitDefEqProofs [hk, h4, ht, htl, ints_set hk, e]
        rw [wrap_id (by omega) (by omega)]
        refine ⟨by omega, by omega, cv_fz 4 hcl rfl ?_⟩
        simp [Ck.look, h0, h4, hk, lookV, show ¬ c.t < 0 by omega]
    · simp -implicitDefEqProofs only [ht, if_false]
      refine cv_fz 4 hcl rfl ?_
      simp [Ck.look, h0, lookV, show c.t < 0 by omega]
  · simp -implicitDefEqProofs [h0]
    refine cv_fz 4 hcl rfl ?_
    simp [Ck.look, h0, lookV, ints]
theorem ok19 (hx : IsI H x c.L) (hl : c.L.length < 4611686018427387904) (now : Int) : Ok Try.prog 19 [ckx x c, i64 now] H (.ret (lookV (c.look now))) H := by
  refine ok_fn hm Try.func19 c19 (by simp) fun hcl => ?_
  simp -implicitDefEqProofs [i19, r19, ckx, hx.vd, hx.ug, hx.sl, hx.len, hx.cell]
  refine call_go (ok34 (hx.app _) hl now) ?_
  by_cases h0 : c.tim now = 0
  · obtain ⟨hg, g1, g2, g3⟩ := Ck.tim0 h0
    have g4 := hg.n4
    have g5 := hg.n1
    simp -implicitDefEqProofs [h0, hx.vd, hx.ug, hx.sl, hx.len, hx.flat]
    refine call_go (ok31 (hx.app _) (by omega) (by omega)) ?_
    by_cases ht : 0 ≤ c.t
    · have htl := hg.t1
      have hk : c.t.toNat < c.L.length := by omega
      have hat := hg.at hk
      have e := used_wrap hg g3 g2
      have e' := used_le hg g3 g2
      simp -implicitDefEqProofs [ckx, mine, rowO, show ¬ c.t < 0 by omega]
      refine call_go (ok38 (c := c) (own1 (T := 3) rfl rfl) hg ht now g3 g2) ?_
      by_cases h4 : c.L[c.t.toNat] < c.used now
      · simp -implicitDefEqProofs [hk, h4, ht, htl, ints_set hk]
        refine ⟨by omega, ?_⟩
        refine callq_go (fun _ => ok39 (c := { c with fa := c.t }) (by rfl) now) ?_
        simp -implicitDefEqProofs [hk, h4, ht, htl, ints_set hk, e]
        rw [wrap_id (by omega) (by omega)]
        refine ⟨by omega, cv_fz 4 hcl rfl ?_⟩
        simp [Ck.look, h0, h4, hk, lookV, show ¬ c.t < 0 by omega]
      · simp -implicitDefEqProofs [hk, h4, ht, htl, ints_set hk]
        refine ⟨by omega, ?_⟩
        refine callq_go (fun _ => ok39 (c := c) (by rfl) now) ?_
        simp -implicitDefEqProofs [hk, h4, ht, htl, ints_set hk, e]
        rw [wrap_id (by omega) (by omega)]
        refine ⟨by omega, cv_fz 4 hcl rfl ?_⟩
        simp [Ck.look, h0, h4, hk, lookV, show ¬ c.t < 0 by omega]
    · simp -implicitDefEqProofs [ckx, mine, rowO, show c.t < 0 by omega]
      refine cv_fz 4 hcl rfl ?_
      simp [Ck.look, h0, lookV, show c.t < 0 by omega]
  · simp -implicitDefEqProofs [h0]
    refine cv_fz 4 hcl rfl ?_
    simp [Ck.look, h0, lookV, ints]
theorem ok22 (hx : IsI H x c.L) (hl : c.L.length < 4611686018427387904) : Ok Try.prog 22 [ckx x c] H (.ret (.tup [i64 c.falls.1, i64 c.falls.2])) H := by
  refine ok_fn hm Try.func22 c22 (by simp) fun hcl => ?_
  simp -implicitDefEqProofs [i22, r22, ckx, hx.vd, hx.ug, hx.sl, hx.len, hx.cell]
  refine call_go (ok14 (hx.app _) hl) ?_
  cases h0 : c.chk with
  | true =>
    have hg := c.good.1 h0
    by_cases h2 : 0 ≤ c.fa
    · simp -implicitDefEqProofs [h2]
      refine cv_fz 4 hcl rfl ?_
      simp [Ck.falls, h0, ste_true, h2]
    · by_cases h3 : c.t < 0
      · simp -implicitDefEqProofs [h2, h3]
        refine cv_fz 4 hcl rfl ?_
        simp [Ck.falls, h0, ste_true, h2, h3]
      · have ht : 0 ≤ c.t := by omega
        have htl := hg.t1
        have hk : c.t.toNat < c.L.length := by omega
        have hat := hg.at hk
        obtain ⟨g3, g4, g5, g6, g7, g8, g9, g10, g11, g12, g13, g14, g15, g16, g17, g18, g19⟩ := hg
        simp -implicitDefEqProofs [h2, h3, ht, htl, hk, hx.vd, hx.ug, hx.sl, hx.len, hx.vA _ hk, hx.okA _ hk]
        rw [wrap_id (n := c.s + c.f) (by omega) (by omega), wrap_id (n := c.s + c.f + _) (by omega) (by omega), wrap_id (by omega) (by omega)]
        have e : c.falls = if 1000000000000 < c.s + c.f + c.L[c.t.toNat] + 1 then (0, 5) else (c.s + c.f + c.L[c.t.toNat] + 1, 0) := by
          simp [Ck.falls, h0, ste_true, h2, h3, hk]
        split
        · rename_i h4
          refine cv_fz 4 hcl rfl ?_
          simp [e, h4]
        · rename_i h4
          refine cv_fz 4 hcl rfl ?_
          simp [e, h4]
  | false =>
    simp -implicitDefEqProofs
    refine cv_fz 4 hcl rfl ?_
    simp [Ck.falls, h0]
theorem ok21 (hx : IsI H x c.L) (hl : c.L.length < 4611686018427387904) : Ok Try.prog 21 [ckx x c] H (.ret (.tup [i64 c.falls.1, i64 c.falls.2])) H := by
  refine ok_fn hm Try.func21 c21 (by simp) fun hcl => ?_
  simp -implicitDefEqProofs [i21, r21, ckx, hx.vd, hx.ug, hx.sl, hx.len, hx.cell]
  refine call_go (ok13 (hx.app _) hl) ?_
  cases h0 : c.chk with
  | true =>
    have hg := c.good.1 h0
    simp -implicitDefEqProofs
    refine call_go (ok35 (hx.app _) true) ?_
    by_cases h1 : c.ste true = 0
    · have h1' := h1
      rw [ste_true] at h1'
      have h3 : ¬ c.t < 0 := by
        intro h; rw [if_pos h] at h1'; split at h1' <;> omega
      have ht : 0 ≤ c.t := by omega
      have htl := hg.t1
      have hk : c.t.toNat < c.L.length := by omega
      have hat := hg.at hk
      obtain ⟨g3, g4, g5, g6, g7, g8, g9, g10, g11, g12, g13, g14, g15, g16, g17, g18, g19⟩ := hg
      simp -implicitDefEqProofs [h1, h3, ht, htl, hk, hx.vd, hx.ug, hx.sl, hx.len, hx.vA _ hk, hx.okA _ hk]
      rw [wrap_id (n := c.s + c.f) (by omega) (by omega), wrap_id (n := c.s + c.f + _) (by omega) (by omega), wrap_id (by omega) (by omega)]
      have e : c.falls = if 1000000000000 < c.s + c.f + c.L[c.t.toNat] + 1 then (0, 5) else (c.s + c.f + c.L[c.t.toNat] + 1, 0) := by
        simp [Ck.falls, h0, h1, hk]
      split
      · rename_i h4
        refine cv_fz 4 hcl rfl ?_
        simp [e, h4]
      · rename_i h4
        refine cv_fz 4 hcl rfl ?_
        simp [e, h4]
    · simp -implicitDefEqProofs [h1]
      refine cv_fz 4 hcl rfl ?_
      simp [Ck.falls, h0, h1]
  | false =>
    simp -implicitDefEqProofs
    refine cv_fz 4 hcl rfl ?_
    simp [Ck.falls, h0]
theorem ok10 {l : List Int} (hx : IsI H x l) (hl : l.length < 4611686018427387904) (a f : Int) : Ok Try.prog 10 [x, i64 a, i64 f] H (.ret (.tup [(Ck.new l a f).1.sv, i64 (Ck.new l a f).2])) H := by
  refine ok_fn hm Try.func10 c10 (by simp) fun hcl => ?_
  simp -implicitDefEqProofs [i10, r10, hx.vd, hx.ug, hx.sl, hx.len, hx.cell, hx.flat, hx.part]
  refine call_go (ok13 (c := ⟨l, a, f, -1, 0, 0, -1⟩) (hx.app _) hl) ?_
  cases h0 : (Ck.mk l a f (-1) 0 0 (-1)).chk with
  | true =>
    have hg := (Ck.mk l a f (-1) 0 0 (-1)).good.1 h0
    simp -implicitDefEqProofs
    refine call_go (ok31 (c := ⟨l, a, f, -1, 0, 0, -1⟩) (hx.app _) (by have := hg.n4; simp at this ⊢; omega) (by have := hg.n1; simp at this ⊢; omega)) ?_
    simp -implicitDefEqProofs [ckx, mine, rowO]
    refine cv_fz 4 hcl rfl ?_
    simp [Ck.new, h0, sv_eq]
  | false =>
    simp -implicitDefEqProofs
    refine cv_fz 4 hcl rfl ?_
    simp [Ck.new, h0, sv_eq, Ck.z, ints]
theorem ok11 {l : List Int} (hx : IsI H x l) (hl : l.length < 1000000000000) (a f : Int) : Ok Try.prog 11 [x, i64 a, i64 f] H (.ret (.tup [(Ck.new l a f).1.sv, i64 (Ck.new l a f).2])) H := by
  refine ok_fn hm Try.func11 c11 (by simp) fun hcl => ?_
  simp -implicitDefEqProofs [i11, r11, hx.vd, hx.ug, hx.sl, hx.len, hx.cell, hx.flat, hx.part]
  refine call_go (ok32 (c := ⟨l, a, f, -1, 0, 0, -1⟩) (hx.app _) hl) ?_
  simp -implicitDefEqProofs [ckx, mine, rowO]
  refine call_go (ok14 (c := ⟨l, a, f, -1, 0, 0, -1⟩) (own1 (T := 3) rfl rfl) (by simp; omega)) ?_
  cases h0 : (Ck.mk l a f (-1) 0 0 (-1)).chk with
  | true =>
    simp -implicitDefEqProofs
    refine cv_fz 4 hcl rfl ?_
    simp [Ck.new, h0, sv_eq]
  | false =>
    simp -implicitDefEqProofs
    refine cv_fz 4 hcl rfl ?_
    simp [Ck.new, h0, sv_eq, Ck.z, ints]
end
end Go.Proofs.Ytffafdbipfadoaa
