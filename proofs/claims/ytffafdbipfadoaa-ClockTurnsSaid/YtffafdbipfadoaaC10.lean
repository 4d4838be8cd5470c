/-
  Steps of the proof: contracts of functions and plain facts that the statement rests on.
-/
import Derived.Test.YtffafdbipfadoaaC9
import Derived.Test.YtffafdbipfadoaaAbT
set_option linter.all false
namespace Go.Proofs.Ytffafdbipfadoaa
open Go.Ab
structure Tk where
  p : Int
  f : Int
  t : Int
def tks : List Tk → List SV
  | [] => []
  | a :: r => i64 a.p :: i64 a.f :: i64 a.t :: tks r
theorem tks_drop : ∀ {l : List Tk} {k : Nat} (h : k < l.length), (tks l).drop (k * 3) = i64 l[k].p :: i64 l[k].f :: i64 l[k].t :: (tks l).drop ((k + 1) * 3)
  | a :: r, 0, _ => by simp [tks]
  | a :: r, k + 1, h => by
    have := tks_drop (l := r) (k := k) (by simpa using h)
    have e1 : (k + 1) * 3 = k * 3 + 3 := by omega
    have e2 : (k + 1 + 1) * 3 = (k + 1) * 3 + 3 := by omega
    rw [e1, e2]
    simpa [tks] using this
theorem tks_drop1 {l : List Tk} {k : Nat} (h : k < l.length) : (tks l).drop (k * 3 + 1) = i64 l[k].f :: i64 l[k].t :: (tks l).drop ((k + 1) * 3) := by
  rw [← List.drop_drop, tks_drop h]; rfl
theorem tks_drop2 {l : List Tk} {k : Nat} (h : k < l.length) : (tks l).drop (k * 3 + 2) = i64 l[k].t :: (tks l).drop ((k + 1) * 3) := by
  rw [← List.drop_drop, tks_drop h]; rfl
theorem tks_len : ∀ l : List Tk, (tks l).length = l.length * 3
  | [] => rfl
  | a :: r => by simp [tks, tks_len r]; omega
theorem tks_under (n : Nat) : ∀ l : List Tk, SV.underL n (tks l) = true
  | [] => rfl
  | a :: r => by simp [tks, SV.underL, tks_under n r]
def tksv (l : List Tk) : SV := .slc (tks l) l.length
/-- A turn. -/
def Ck.turn (c : Ck) (t : Tk) : Ck × Int := if (c.start t.p t.f).2 ≠ 0 then (.z, (c.start t.p t.f).2) else (c.start t.p t.f).1.stop t.t
def Ck.go : Ck → List Tk → Nat → Ck × Int × Int
  | c, [], _ => (c, 0, 0)
  | c, t :: r, i => if (c.turn t).2 ≠ 0 then (c, (c.turn t).2, i) else (c.turn t).1.go r (i + 1)
def Ck.run (c : Ck) (l : List Tk) : Ck × Int × Int :=
  if c.chk = false then (.z, 13, 0) else if 10000 < l.length then (.z, 4, 10000) else
  if (c.go l 0).2.1 ≠ 0 then (.z, (c.go l 0).2) else ((c.go l 0).1, 0, 0)
section
variable {c : Ck} {H : List AO}
theorem start_len {c : Ck} {p now : Int} (hl : c.L.length < 4611686018427387904) : (c.start p now).1.L.length < 4611686018427387904 := by
  unfold Ck.start; repeat' split
  all_goals first | exact hl | simp [Ck.z]
theorem stop_len {c : Ck} {now : Int} (hl : c.L.length < 4611686018427387904) : (c.stop now).1.L.length < 4611686018427387904 := by
  unfold Ck.stop; repeat' split
  all_goals simp [hl, Ck.z]
theorem turn_len {c : Ck} {t : Tk} (hl : c.L.length < 4611686018427387904) : (c.turn t).1.L.length < 4611686018427387904 := by
  unfold Ck.turn; split
  · simp [Ck.z]
  · exact stop_len (start_len hl)
theorem stop_z {c : Ck} {now : Int} (h : (c.stop now).2 ≠ 0) : (c.stop now).1 = .z := by
  revert h; unfold Ck.stop; repeat' split
  all_goals simp
theorem ok42 (hl : c.L.length < 4611686018427387904) (t : Tk) : Ok Try.prog 42 [c.sv, .agg [i64 t.p, i64 t.f, i64 t.t]] H (.ret (.tup [(c.turn t).1.sv, i64 (c.turn t).2])) H := by
  refine ok_fn hm Try.func42 c42 (by simp) fun hcl => ?_
  simp -implicitDefEqProofs [i42, r42, Ck.sv, ckx]
  refine call_go (ok15 (c := c) (isv c _) hl t.p t.f) ?_
  simp -implicitDefEqProofs [sv_eq]
  have hsl := start_len (c := c) (p := t.p) (now := t.f) hl
  have ht : c.turn t = if (c.start t.p t.f).2 ≠ 0 then (.z, (c.start t.p t.f).2) else (c.start t.p t.f).1.stop t.t := rfl
  revert hsl ht
  generalize c.start t.p t.f = s
  intro hsl ht
  obtain ⟨s, se⟩ := s
  by_cases h : se = 0
  · subst h
    simp -implicitDefEqProofs
    refine call_go (ok17 (c := s) (isv s _) hsl t.t) ?_
    simp -implicitDefEqProofs [sv_eq]
    refine cv_fz 4 hcl rfl ?_
    simp [ht, sv_eq]
  · simp -implicitDefEqProofs [h]
    refine cv_fz 4 hcl rfl ?_
    simp [ht, h, sv_eq, Ck.z, ints]
end
end Go.Proofs.Ytffafdbipfadoaa
