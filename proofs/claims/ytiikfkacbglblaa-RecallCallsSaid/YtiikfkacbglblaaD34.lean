/-
  Steps of the proof: contracts of functions and plain facts that the statement rests on.
-/
import Derived.Test.YtiikfkacbglblaaD32
import Derived.Test.YtiikfkacbglblaaD33
set_option linter.all false
namespace Go.Proofs.Ytiikfkacbglblaa
open Go.Ab
/-- A plain value. -/
structure Pl (x : SV) : Prop where
  vd : x.vd = true
  ug : x.ug = x
  st : x.strip = x
theorem Pl.nl : Pl nl := ⟨rfl, rfl, rfl⟩
theorem Pl.slc (c : List SV) (n : Nat) : Pl (.slc c n) := ⟨rfl, rfl, rfl⟩
theorem Pl.wv (l : List (Int × Int)) : Pl (wv l) := by unfold Proofs.Ytiikfkacbglblaa.wv; split; exact Pl.nl; exact Pl.slc _ _
theorem Pl.fv (l : List Fl) : Pl (fv l) := by unfold Proofs.Ytiikfkacbglblaa.fv; split; exact Pl.nl; exact Pl.slc _ _
theorem Pl.ite {c : Prop} [Decidable c] {x y : SV} (hx : Pl x) (hy : Pl y) : Pl (if c then x else y) := by split; exact hx; exact hy
section
variable {H : List AO} {g : Gm}
theorem out_tup (z v : SV) : g.out z v = .tup [if g.formE = 0 then v else z, i64 g.formE] := by
  unfold Gm.out
  by_cases h : g.formE = 0
  · rw [if_pos h, if_pos h, h]
  · rw [if_neg h, if_neg h]
theorem wayV_tup (node pl : Int) : g.wayV node pl = .tup [if g.wayE node pl = 0 then wv (g.way node.toNat pl) else nl, i64 (g.wayE node pl)] := by
  unfold Gm.wayV
  by_cases h : g.wayE node pl = 0
  · rw [if_pos h, if_pos h, h]
  · rw [if_neg h, if_neg h]
theorem wayR_tup (node pl : Int) : g.wayR node pl = .tup [if g.wayE node pl = 0 then ws (g.way node.toNat pl) else nl, i64 (g.wayE node pl)] := by
  unfold Gm.wayR
  by_cases h : g.wayE node pl = 0
  · rw [if_pos h, if_pos h, h]
  · rw [if_neg h, if_neg h]
theorem wayE_form {node pl : Int} (h : g.wayE node pl = 0) : g.formE = 0 := by
  unfold Gm.wayE at h
  by_cases h0 : g.formE = 0
  · exact h0
  · have h1 : g.formE ≠ 0 := h0
    rw [if_pos h1] at h; exact h
theorem a19 (node pl : Int) : Ok Try.prog 19 [if g.wayE node pl = 0 then wv (g.way node.toNat pl) else nl, if g.wayE node pl = 0 then ws (g.way node.toNat pl) else nl] H (.ret (bl true)) H := by
  by_cases h : g.wayE node pl = 0
  · rw [if_pos h, if_pos h]
    have hW := wg_of (wayE_form h)
    have := way_len (g := g) (node := node.toNat) (pl := pl)
    have := hW.gd.n
    exact ok19 (by omega)
  · rw [if_neg h, if_neg h]; exact ok19n
theorem a25 : Ok Try.prog 25 [if g.formE = 0 then fv g.flaws else nl, if g.formE = 0 then fs g.flaws else nl] H (.ret (bl true)) H := by
  by_cases h : g.formE = 0
  · rw [if_pos h, if_pos h]; exact ok25 (flaws_len (wg_of h))
  · rw [if_neg h, if_neg h]; exact ok25n
theorem a23 (l : List Int) (hl : l.length = g.ns.length) : Ok Try.prog 23 [if g.formE = 0 then sl l else nl, if g.formE = 0 then sl l else nl] H (.ret (bl true)) H := by
  by_cases h : g.formE = 0
  · rw [if_pos h]
    have := (wg_of h).gd.n
    exact ok23s (isl _ _) (isl _ _) (by omega)
  · rw [if_neg h]; exact ok23n
theorem a24 : Ok Try.prog 24 [if g.formE = 0 then g.setsV else nl, if g.formE = 0 then g.setsV else nl] H (.ret (bl true)) H := by
  by_cases h : g.formE = 0
  · rw [if_pos h]
    have hW := wg_of h
    have h1 := hW.gd.n
    have h2 := hW.gd.i
    unfold Gm.setsV
    rw [← sets_len]
    exact ok24 (by rw [sets_len]; omega) (fun l hl => by
      obtain ⟨k, hk, rfl⟩ := List.getElem_of_mem hl
      have := sets_lenk (g := g) hk; omega)
  · rw [if_neg h]; exact ok24n
set_option maxRecDepth 10000 in
/-- RecallCalls, as far as its code goes. -/
theorem ok5 (node pl : Int) : Ok Try.prog 5 [.agg g.cells, i64 node, i64 pl] H (.ret (bl true)) H := by
  refine ok_fn hm Try.func5 c5 (by simp) fun hcl => ?_
  have h9 := fun H => ok9 (H := H) (g := g)
  have h16 := fun H => ok16 (H := H) (g := g) pl
  have h26 := fun H => ok26 (H := H) (g := g) pl
  have h17 := fun H => ok17 (H := H) (g := g)
  have h27 := fun H => ok27 (H := H) (g := g)
  have h18 := fun H => ok18 (H := H) (g := g) node pl
  have h28 := fun H => ok28 (H := H) (g := g) node pl
  have h22 := fun H => ok22 (H := H) (g := g) node
  have h29 := fun H => ok29 (H := H) (g := g) node
  have h30 := fun H => ok30 (H := H) (g := g)
  have h31 := fun H => ok31 (H := H) (g := g)
  have h20 := fun H => ok20 (H := H) (g := g)
  have h32 := fun H => ok32 (H := H) (g := g)
  have h21 := fun H => ok21 (H := H) (g := g)
  have h33 := fun H => ok33 (H := H) (g := g)
  simp only [Gm.cells, Gm.flawsV, Gm.flawsR, out_tup, wayV_tup, wayR_tup, tup2, ← perfV_eq] at h9 h16 h26 h17 h27 h18 h28 h22 h29 h30 h31 h20 h32 h21 h33
  have b25 := fun H => a25 (H := H) (g := g)
  have b19 := fun H => a19 (H := H) (g := g) node pl
  have bP := fun H => a23 (H := H) (g := g) g.wk.2.P wk_len.1
  have bD := fun H => a23 (H := H) (g := g) g.wk.2.D wk_len.2.1
  have bS := fun H => a24 (H := H) (g := g)
  have p1 : Pl (if g.formE = 0 then fv g.flaws else nl) := Pl.ite (Pl.fv _) Pl.nl
  have p2 : Pl (if g.formE = 0 then fs g.flaws else nl) := Pl.ite (Pl.slc _ _) Pl.nl
  have p3 : Pl (if g.wayE node pl = 0 then wv (g.way node.toNat pl) else nl) := Pl.ite (Pl.wv _) Pl.nl
  have p4 : Pl (if g.wayE node pl = 0 then ws (g.way node.toNat pl) else nl) := Pl.ite (Pl.slc _ _) Pl.nl
  have p5 : Pl (if g.formE = 0 then sl g.wk.2.P else nl) := Pl.ite (Pl.slc _ _) Pl.nl
  have p6 : Pl (if g.formE = 0 then sl g.wk.2.D else nl) := Pl.ite (Pl.slc _ _) Pl.nl
  have p7 : Pl (if g.formE = 0 then g.setsV else nl) := Pl.ite (Pl.slc _ _) Pl.nl
  generalize (if g.formE = 0 then fv g.flaws else nl) = x1 at h17 b25 p1
  generalize (if g.formE = 0 then fs g.flaws else nl) = x2 at h27 b25 p2
  generalize (if g.wayE node pl = 0 then wv (g.way node.toNat pl) else nl) = x3 at h18 b19 p3
  generalize (if g.wayE node pl = 0 then ws (g.way node.toNat pl) else nl) = x4 at h28 b19 p4
  generalize (if g.formE = 0 then sl g.wk.2.P else nl) = x5 at h30 h31 bP p5
  generalize (if g.formE = 0 then sl g.wk.2.D else nl) = x6 at h20 h32 bD p6
  generalize (if g.formE = 0 then g.setsV else nl) = x7 at h21 h33 bS p7
  simp -implicitDefEqProofs [i5, r5, Gm.cells]
  refine call_go (h9 _) ?_
  by_cases hL : g.large
  · simp -implicitDefEqProofs [hL]
    refine call_go ok10 ?_
    simp -implicitDefEqProofs
    exact cv_fz 1 hcl rfl (by simp)
  · simp -implicitDefEqProofs [hL]
    refine call_go (h16 _) ?_
    simp -implicitDefEqProofs
    refine call_go (h26 _) ?_
    simp -implicitDefEqProofs
    refine call_go (h17 _) ?_
    simp -implicitDefEqProofs
    refine call_go (h27 _) ?_
    simp -implicitDefEqProofs [p1.vd, p1.ug, p2.vd, p2.ug]
    refine callq_st (r := bl true) (fun _ => by simp only [List.map_cons, List.map_nil, SV.strip, p1.st, p2.st]; exact b25 _) ?_
    simp -implicitDefEqProofs [p1.vd, p1.ug, p2.vd, p2.ug, p3.vd, p3.ug, p4.vd, p4.ug, p5.vd, p5.ug, p6.vd, p6.ug, p7.vd, p7.ug]
    refine call_go (h18 _) ?_
    simp -implicitDefEqProofs [p1.vd, p1.ug, p2.vd, p2.ug, p3.vd, p3.ug, p4.vd, p4.ug, p5.vd, p5.ug, p6.vd, p6.ug, p7.vd, p7.ug]
    refine call_go (h28 _) ?_
    simp -implicitDefEqProofs [p1.vd, p1.ug, p2.vd, p2.ug, p3.vd, p3.ug, p4.vd, p4.ug, p5.vd, p5.ug, p6.vd, p6.ug, p7.vd, p7.ug]
    refine call_go (h22 _) ?_
    simp -implicitDefEqProofs [p1.vd, p1.ug, p2.vd, p2.ug, p3.vd, p3.ug, p4.vd, p4.ug, p5.vd, p5.ug, p6.vd, p6.ug, p7.vd, p7.ug]
    refine call_go (h29 _) ?_
    simp -implicitDefEqProofs [p1.vd, p1.ug, p2.vd, p2.ug, p3.vd, p3.ug, p4.vd, p4.ug, p5.vd, p5.ug, p6.vd, p6.ug, p7.vd, p7.ug]
    refine call_go (b19 _) ?_
    simp -implicitDefEqProofs [p1.vd, p1.ug, p2.vd, p2.ug, p3.vd, p3.ug, p4.vd, p4.ug, p5.vd, p5.ug, p6.vd, p6.ug, p7.vd, p7.ug]
    refine call_go (h30 _) ?_
    simp -implicitDefEqProofs [p1.vd, p1.ug, p2.vd, p2.ug, p3.vd, p3.ug, p4.vd, p4.ug, p5.vd, p5.ug, p6.vd, p6.ug, p7.vd, p7.ug]
    refine call_go (h31 _) ?_
    simp -implicitDefEqProofs [p1.vd, p1.ug, p2.vd, p2.ug, p3.vd, p3.ug, p4.vd, p4.ug, p5.vd, p5.ug, p6.vd, p6.ug, p7.vd, p7.ug]
    refine call_go (h20 _) ?_
    simp -implicitDefEqProofs [p1.vd, p1.ug, p2.vd, p2.ug, p3.vd, p3.ug, p4.vd, p4.ug, p5.vd, p5.ug, p6.vd, p6.ug, p7.vd, p7.ug]
    refine call_go (h32 _) ?_
    simp -implicitDefEqProofs [p1.vd, p1.ug, p2.vd, p2.ug, p3.vd, p3.ug, p4.vd, p4.ug, p5.vd, p5.ug, p6.vd, p6.ug, p7.vd, p7.ug]
    refine call_go (h21 _) ?_
    simp -implicitDefEqProofs [p1.vd, p1.ug, p2.vd, p2.ug, p3.vd, p3.ug, p4.vd, p4.ug, p5.vd, p5.ug, p6.vd, p6.ug, p7.vd, p7.ug]
    refine call_go (h33 _) ?_
    simp -implicitDefEqProofs [p1.vd, p1.ug, p2.vd, p2.ug, p3.vd, p3.ug, p4.vd, p4.ug, p5.vd, p5.ug, p6.vd, p6.ug, p7.vd, p7.ug]
    refine call_go (bP _) ?_
    simp -implicitDefEqProofs [p1.vd, p1.ug, p2.vd, p2.ug, p3.vd, p3.ug, p4.vd, p4.ug, p5.vd, p5.ug, p6.vd, p6.ug, p7.vd, p7.ug]
    refine callq_st (r := bl true) (fun _ => by simp only [List.map_cons, List.map_nil, SV.strip, p6.st, p6.st]; exact bD _) ?_
    simp -implicitDefEqProofs [p1.vd, p1.ug, p2.vd, p2.ug, p3.vd, p3.ug, p4.vd, p4.ug, p5.vd, p5.ug, p6.vd, p6.ug, p7.vd, p7.ug]
    refine callq_st (r := bl true) (fun _ => by simp only [List.map_cons, List.map_nil, SV.strip, p7.st]; exact bS _) ?_
    simp -implicitDefEqProofs
    refine callq_st (r := bl true) (fun _ => ok10) ?_
    simp -implicitDefEqProofs
    exact cv_fz 1 hcl rfl (by simp)
end
end Go.Proofs.Ytiikfkacbglblaa
