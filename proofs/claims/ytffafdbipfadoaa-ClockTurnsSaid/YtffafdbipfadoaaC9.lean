/-
  Steps of the proof: contracts of functions and plain facts that the statement rests on.
-/
import Derived.Test.YtffafdbipfadoaaC8
set_option linter.all false
namespace Go.Proofs.Ytffafdbipfadoaa
open Go.Ab
section
variable {c : Ck} {x y : SV} {H : List AO}
theorem ok23s {l : List Int} (hx : IsI H x l) (hy : IsI H y l) (hl : l.length < 4611686018427387904) : Ok Try.prog 23 [x, y] H (.ret (bl true)) H := by simpa using ok23 hx hy hl
set_option maxRecDepth 10000 in
theorem ok3 {l : List Int} (hx : IsI H x c.L) (hy : IsI H y l) (a f p now : Int) : Ok Try.prog 3 [ckx x c, y, i64 a, i64 f, i64 p, i64 now] H (.ret (bl true)) H := by
  refine ok_fn hm Try.func3 c3 (by simp) fun hcl => ?_
  by_cases h1 : 20 < (c.L.length : Int)
  · simp -implicitDefEqProofs [i3, r3, ckx, hx.vd, hx.ug, hx.sl, hx.len, hx.cell, hx.flat, h1]
    refine call_go ok9 ?_
    simp -implicitDefEqProofs
    exact cv_fz 1 hcl rfl (by simp)
  by_cases h2 : 20 < (l.length : Int)
  · simp -implicitDefEqProofs [i3, r3, ckx, hx.vd, hx.ug, hx.sl, hx.len, hx.cell, hx.flat, hy.vd, hy.ug, hy.sl, hy.len, h1, h2]
    refine call_go ok9 ?_
    simp -implicitDefEqProofs
    exact cv_fz 1 hcl rfl (by simp)
  have hl : c.L.length < 4611686018427387904 := by omega
  have hl' : l.length < 4611686018427387904 := by omega
  simp -implicitDefEqProofs [i3, r3, ckx, hx.vd, hx.ug, hx.sl, hx.len, hx.cell, hx.flat, hy.vd, hy.ug, hy.sl, hy.len, hx.rowlenA, hx.rowA, h1, h2, show c.L.length * 8 ≤ 140737488355328 by omega, show c.L.length ≤ 140737488355328 by omega]
  refine call_go (ok10 (hy.app _) (by omega) a f) ?_
  simp -implicitDefEqProofs [sv_eq]
  refine call_go (ok11 (hy.app _) (by omega) a f) ?_
  simp -implicitDefEqProofs [sv_eq]
  have hnl : (Ck.new l a f).1.L.length < 4611686018427387904 := by
    unfold Ck.new; split
    · exact hl'
    · decide
  revert hnl
  generalize Ck.new l a f = n
  intro hnl
  obtain ⟨n, ne⟩ := n
  refine callq_go (fun _ => ok12 (a := n) (b := n) (isv n _) (isv n _) hnl) ?_
  simp -implicitDefEqProofs
  refine callq_st (fun _ => ok13 (c := c) (hx.app _) hl) ?_
  simp -implicitDefEqProofs
  refine callq_st (fun _ => ok14 (c := c) (hx.app _) hl) ?_
  simp -implicitDefEqProofs
  refine call_go (ok15 (c := c) (hx.app _) hl p now) ?_
  simp -implicitDefEqProofs [sv_eq]
  refine call_go (ok16 (c := c) (hx.app _) hl p now) ?_
  simp -implicitDefEqProofs [sv_eq]
  have hsl : (c.start p now).1.L.length < 4611686018427387904 := by
    unfold Ck.start; repeat' split
    all_goals first | exact hl | simp [Ck.z]
  revert hsl
  generalize c.start p now = s
  intro hsl
  obtain ⟨s, se⟩ := s
  refine call_go (ok17 (c := c) (hx.app _) hl now) ?_
  simp -implicitDefEqProofs [sv_eq]
  refine call_go (ok18 (c := c) (hx.app _) hl now) ?_
  simp -implicitDefEqProofs [sv_eq]
  have htl : (c.stop now).1.L.length < 4611686018427387904 := by
    unfold Ck.stop; repeat' split
    all_goals simp [hl, Ck.z]
  revert htl
  generalize c.stop now = q
  intro htl
  obtain ⟨q, qe⟩ := q
  refine call_go (ok12 (a := s) (b := s) (isv s _) (isv s _) hsl) ?_
  simp -implicitDefEqProofs
  refine callq_st (fun _ => ok12 (a := q) (b := q) (isv q _) (isv q _) htl) ?_
  simp -implicitDefEqProofs
  refine call_go (ok19 (c := c) (hx.app _) hl now) ?_
  simp -implicitDefEqProofs [lookV]
  refine call_go (ok20 (c := c) (hx.app _) hl now) ?_
  simp -implicitDefEqProofs [lookV]
  have hkl : (c.look now).1.length < 4611686018427387904 := by
    unfold Ck.look; repeat' split
    all_goals simp [hl]
  revert hkl
  generalize c.look now = k
  intro hkl
  obtain ⟨k, kf, ke⟩ := k
  refine call_go (ok21 (c := c) (hx.app _) hl) ?_
  simp -implicitDefEqProofs
  refine call_go (ok22 (c := c) (hx.app _) hl) ?_
  simp -implicitDefEqProofs
  generalize c.falls = u
  obtain ⟨u, ue⟩ := u
  refine call_go (ok23 (l := k) (m := k) (IsI.slc _ _) (IsI.slc _ _) hkl) ?_
  simp -implicitDefEqProofs
  refine callq_st (r := bl true) (fun _ => by
    simp only [List.map_cons, List.map_nil, SV.strip, hx.strip]
    refine ok23s (l := c.L) (hx.app _) ?_ hl
    exact IsI.whole (T := 3) (k := 1) (l := c.L) (ver := 1) rfl rfl) ?_
  simp -implicitDefEqProofs
  refine callq_go (fun _ => ok9) ?_
  simp -implicitDefEqProofs
  exact cv_fz 1 hcl rfl (by simp)
end
end Go.Proofs.Ytffafdbipfadoaa
