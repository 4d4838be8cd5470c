/-
  Steps of the proof: contracts of functions and plain facts that the statement rests on.
-/
import Derived.Test.YtffafdbipfadoaaC3
set_option linter.all false
namespace Go.Proofs.Ytffafdbipfadoaa
open Go.Ab
section
variable {c : Ck} {x : SV} {H : List AO}
def rowO (l : List Int) : AO := ⟨ints l, 3, 0, true⟩
def mine (H : List AO) (l : List Int) : SV := .own H.length 0 l.length 1 0

theorem under_app {n m : Nat} {x : SV} (h : x.under n = true) (hm : n ≤ m) : x.under m = true := SV.under_mono hm x h

theorem ok32 (hx : IsI H x c.L) (hl : c.L.length < 1000000000000) : Ok Try.prog 32 [ckx x c] H (.ret (ckx (mine H c.L) c)) (H ++ [rowO c.L]) := by
  refine ok_fn hm Try.func32 c32 (by simp) fun hcl => ?_
  simp -implicitDefEqProofs [i32, r32, ckx, hx.vd, hx.ug, hx.sl, hx.len, hx.cell, hx.flat, hx.rowlenA, hx.rowA, show c.L.length * 8 ≤ 140737488355328 by omega, show c.L.length ≤ 140737488355328 by omega]
  refine cv_kp 2 [2] hcl rfl ?_ ?_ ?_
  · simp [mine]
  · simp
  · simp [rowO]
theorem ok43 {l : List Int} (hx : IsI H x l) (hl : l.length < 1000000000000) (h0 : 0 < l.length) : Ok Try.prog 43 [x] H (.ret (mine H l)) (H ++ [rowO l]) := by
  refine ok_fn hm Try.func43 c43 (by simp) fun hcl => ?_
  simp -implicitDefEqProofs [i43, r43, hx.vd, hx.ug, hx.sl, hx.len, hx.cell, hx.flat, hx.rowlenA, hx.rowA, show l.length * 8 ≤ 140737488355328 by omega, show l.length ≤ 140737488355328 by omega, show l.length ≠ 0 by omega]
  refine cv_kp 2 [0] hcl rfl ?_ ?_ ?_
  · simp [mine]
  · simp
  · simp [rowO]
theorem ok31 (hx : IsI H x c.L) (hl : c.L.length < 1000000000000) (h0 : 0 < c.L.length) : Ok Try.prog 31 [ckx x c] H (.ret (ckx (mine H c.L) c)) (H ++ [rowO c.L]) := by
  refine ok_fn hm Try.func31 c31 (by simp) fun hcl => ?_
  simp -implicitDefEqProofs [i31, r31, ckx, hx.vd, hx.ug, hx.sl, hx.len, hx.cell, hx.flat]
  refine call_go (ok43 (hx.app _) hl h0) ?_
  simp -implicitDefEqProofs [mine, rowO]
  refine cv_kp 2 [2] hcl rfl ?_ ?_ ?_
  · simp [mine]
  · simp
  · simp [rowO]
theorem ok39 (hx : x.isCell = true) (now : Int) : Ok Try.prog 39 [ckx x c, i64 now] H (.ret (i64 (max 0 (IntKind.i64.wrap (IntKind.i64.wrap (now - c.s) - c.f))))) H := by
  refine ok_fn hm Try.func39 c39 (by simp) fun hcl => ?_
  simp -implicitDefEqProofs [i39, r39, ckx, hx]
  exact cv_fz 1 hcl rfl (by simp)
theorem ok40 (hx : x.isCell = true) (now : Int) : Ok Try.prog 40 [ckx x c, i64 now] H (.ret (i64 (max 0 (IntKind.i64.wrap (IntKind.i64.wrap (now - c.s) - c.f))))) H := by
  refine ok_fn hm Try.func40 c40 (by simp) fun hcl => ?_
  simp -implicitDefEqProofs [i40, r40, ckx, hx]
  exact cv_fz 1 hcl rfl (by simp)
def Ck.tim (c : Ck) (now : Int) : Int := if c.chk = true then (if 0 ≤ now ∧ now ≤ 1000000000000 then (if now < c.la then 9 else 0) else 2) else 13
theorem ok34 (hx : IsI H x c.L) (hl : c.L.length < 4611686018427387904) (now : Int) : Ok Try.prog 34 [ckx x c, i64 now] H (.ret (i64 (c.tim now))) H := by
  refine ok_fn hm Try.func34 c34 (by simp) fun hcl => ?_
  simp -implicitDefEqProofs [i34, r34, ckx, hx.vd, hx.ug, hx.sl, hx.len, hx.cell]
  refine call_go (ok13 (hx.app _) hl) ?_
  cases h : c.chk with
  | false => simp [h, Ck.tim]; exact cv_fz 1 hcl rfl (by simp)
  | true =>
    simp -implicitDefEqProofs [h, Ck.tim]
    refine call_go (ok36 (l := [now]) (own1 (T := 3) rfl rfl) (by simp)) ?_
    by_cases hr : 0 ≤ now ∧ now ≤ 1000000000000
    · have e : inR 0 1000000000000 [now] = true := by simp [inR, hr]
      simp -implicitDefEqProofs [e, hr]
      split <;> exact cv_fz 1 hcl rfl (by simp [Ck.tim, *])
    · have e : inR 0 1000000000000 [now] = false := by simp [inR]; omega
      simp -implicitDefEqProofs [e, hr]; exact cv_fz 1 hcl rfl (by simp only [Ck.tim, h, if_true, if_neg hr]; simp)
theorem ok37 (hx : IsI H x c.L) (hl : c.L.length < 4611686018427387904) (now : Int) : Ok Try.prog 37 [ckx x c, i64 now] H (.ret (i64 (c.tim now))) H := by
  refine ok_fn hm Try.func37 c37 (by simp) fun hcl => ?_
  simp -implicitDefEqProofs [i37, r37, ckx, hx.vd, hx.ug, hx.sl, hx.len, hx.cell]
  refine call_go (ok14 (hx.app _) hl) ?_
  cases h : c.chk with
  | false => simp [h, Ck.tim]; exact cv_fz 1 hcl rfl (by simp)
  | true =>
    simp -implicitDefEqProofs [h, Ck.tim]
    have e : (now < 0 ∨ 1000000000000 < now) ↔ ¬ (0 ≤ now ∧ now ≤ 1000000000000) := by omega
    by_cases hr : 0 ≤ now ∧ now ≤ 1000000000000
    · simp only [e, hr, not_true, not_false_eq_true, and_self, if_true, if_false]
      split <;> exact cv_fz 1 hcl rfl (by simp)
    · simp only [e, hr, not_true, not_false_eq_true, if_true, if_false]
      exact cv_fz 1 hcl rfl (by simp)
theorem ok54 (b : Bool) : Ok Try.prog 54 [bl b] H (.ret (i64 (if b = true then 1 else 0))) H := by
  refine ok_fn hm Try.func54 c54 (by simp) fun hcl => ?_
  cases b <;> simp -implicitDefEqProofs [i54, r54] <;> exact cv_id
theorem ok53 : Ok Try.prog 53 [] H (.ret (i64 17)) H := by
  refine ok_fn hm Try.func53 c53 (by simp) fun hcl => ?_
  simp -implicitDefEqProofs [i53, r53]; exact cv_id
theorem ok52 {b : Bool} {p q : SV} {k : Nat} (hp : ldv H p = bl b ∧ ldok H p 1 ∧ p.vd = true ∧ p.ug = p) (hq : q = .ptr (.own k 0 0 0 0) 0) (ho : objCells H k 0 = [x, i64 c.a, i64 c.f, i64 c.t, i64 c.s, i64 c.la, i64 c.fa]) :
    Ok Try.prog 52 [p, q] H (.ret (i64 (if b = decide (0 ≤ c.t) then 0 else 13))) H := by
  refine ok_fn hm Try.func52 c52 (by simp) fun hcl => ?_
  simp -implicitDefEqProofs [i52, r52, hp, hq, ho]
  split <;> exact cv_id
def Ck.ste (c : Ck) (b : Bool) : Int := if 0 ≤ c.fa then 17 else if b = decide (0 ≤ c.t) then 0 else 13
theorem ok35 (hx : IsI H x c.L) (b : Bool) : Ok Try.prog 35 [ckx x c, bl b] H (.ret (i64 (c.ste b))) H := by
  refine ok_fn hm Try.func35 c35 (by simp) fun hcl => ?_
  simp -implicitDefEqProofs [i35, r35, ckx, hx.vd, hx.ug, hx.sl, hx.len, hx.cell]
  refine call_go (ok54 _) ?_
  by_cases h : 0 ≤ c.fa
  · simp -implicitDefEqProofs [h, Ck.ste]
    refine call_go ok53 ?_
    simp
    exact cv_fz 1 hcl rfl (by simp [h, Ck.ste])
  · simp -implicitDefEqProofs [h, Ck.ste]
    refine call_of (ok52 (c := c) (x := x) (b := b) (k := H.length) ⟨by simp, by simp, rfl, rfl⟩ rfl (by simp)) ?_
    simp
    exact cv_fz 1 hcl rfl (by simp [h, Ck.ste])
end
end Go.Proofs.Ytffafdbipfadoaa
