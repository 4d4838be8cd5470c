/-
  Steps of the proof: contracts of functions and plain facts that the statement rests on.
-/
import Derived.Test.YtffafdbipfadoaaIr35
import Derived.Test.YtffafdbipfadoaaAbM
set_option linter.all false
namespace Go.Proofs.Ytffafdbipfadoaa
open Go.Ab
theorem hm : Try.prog.follows .mixedOrders = true := Try.checked.mixed

def inR (low high : Int) (l : List Int) : Bool := l.all fun n => decide (low ≤ n) && decide (n ≤ high)
theorem inR_cons (low high n : Int) (l : List Int) : inR low high (n :: l) = (decide (low ≤ n) && decide (n ≤ high) && inR low high l) := rfl

theorem loop36 {low high : Int} {l : List Int} {x : SV} {H : List AO} (hx : IsI H x l) (hl : l.length < 9223372036854775807) {N : Nat} {K : XE → Env → List AO → Prop}
    (hret : ∀ env, inR low high l = false → env.get 6 = bl false → K .ret env H) (hexit : inR low high l = true → ∀ env, K (.exit 0) env H) :
    ∀ (n i : Nat) (env : Env), i + n = l.length → inR low high (l.drop i) = inR low high l → env.get 0 = i64 low → env.get 1 = i64 high → env.get 9 = x → env.get 10 = i64 l.length → env.get 11 = i64 i →
      LI Try.prog N drawB l36_0 env H K := by
  intro n
  induction n with
  | zero =>
    intro i env hi ha h0 h1 h9 h10 h11
    refine li_go hm l36_0.eq_1 ?_
    have e : i = l.length := by omega
    subst e
    simp [h10, h11]
    exact hexit (by simpa [inR] using ha.symm) _
  | succ n ih =>
    intro i env hi ha h0 h1 h9 h10 h11
    refine li_go hm l36_0.eq_1 ?_
    have hlt : i < l.length := by omega
    rw [List.drop_eq_getElem_cons hlt, inR_cons] at ha
    simp [h0, h1, h9, h10, h11, hlt, hx.vd, hx.ug, hx.sl, hx.len, hx.v hlt, hx.ok hlt]
    split
    · rename_i hc
      refine hret _ ?_ (by simp)
      rw [← ha]; simp; omega
    · rename_i hc
      refine ih (i + 1) _ (by omega) ?_ (by simp [h0]) (by simp [h1]) (by simp [h9]) (by simp [h10]) (by simp [wrap_suc (show i < 9223372036854775807 by omega)])
      rw [← ha]; simp; omega

theorem ok36 {low high : Int} {l : List Int} {x : SV} {H : List AO} (hx : IsI H x l) (hl : l.length < 9223372036854775807) : Ok Try.prog 36 [i64 low, i64 high, x] H (.ret (bl (inR low high l))) H := by
  refine ok_fn hm Try.func36 c36 (by simp) fun hcl => ?_
  simp -implicitDefEqProofs [i36, r36, hx.vd, hx.ug, hx.sl, hx.len]
  refine loop36 (low := low) (high := high) hx hl (fun env h1 h2 => ?_) (fun h1 env => ?_) l.length 0 _ (by omega) (by simp) (by simp) (by simp) (by simp) (by simp) (by simp)
  · simp [h1, h2]; exact cv_id
  · simp [h1]; exact cv_id

structure Ck where
  L : List Int
  a : Int
  f : Int
  t : Int
  s : Int
  la : Int
  fa : Int
def ckx (x : SV) (c : Ck) : SV := .agg [x, i64 c.a, i64 c.f, i64 c.t, i64 c.s, i64 c.la, i64 c.fa]
def Ck.sv (c : Ck) : SV := ckx (.slc (ints c.L) c.L.length) c
def Ck.rule (c : Ck) : Nat → Bool
  | 0 => inR 1 4 [(c.L.length : Int)]
  | 1 => inR 0 1000000000 c.L
  | 2 => inR 0 10000000 [c.a, c.f]
  | 3 => inR 0 1000000000000 [c.s, c.la] && decide (c.s ≤ c.la)
  | 4 => inR (-1) ((c.L.length : Int) - 1) [c.t, c.fa]
  | 5 => decide (c.t < 0) || decide (c.fa < 0)
  | 6 => decide (0 ≤ c.t) || decide (c.s = 0)
  | _ => decide (c.fa < 0) || decide (c.L.getD c.fa.toNat 0 = 0)

section
variable {c : Ck} {x : SV} {H : List AO}
theorem own1 {H L : List AO} {T : TypeId} {l : List Int} {k n : Nat} (h : L[k]? = some ⟨ints l, T, 0, true⟩) (hn : n = l.length) : IsI (H ++ L) (.own (H.length + k) 0 n 1 0) l := by
  subst hn; exact IsI.own0 H L k 0 l [] T (by simpa using h)

theorem ok44 (hx : IsI H x c.L) (hl : c.L.length < 4611686018427387904) : Ok Try.prog 44 [ckx x c] H (.ret (bl (c.rule 0))) H := by
  refine ok_fn hm Try.func44 c44 (by simp) fun hcl => ?_
  simp -implicitDefEqProofs [i44, r44, ckx, hx.vd, hx.ug, hx.sl, hx.len, hx.cell]
  refine call_go (ok36 (l := [(c.L.length : Int)]) (own1 (T := 3) rfl rfl) (by simp)) ?_
  simp
  exact cv_fz 1 hcl rfl (by simp; rfl)
theorem ok45 (hx : IsI H x c.L) (hl : c.L.length < 4611686018427387904) : Ok Try.prog 45 [ckx x c] H (.ret (bl (c.rule 1))) H := by
  refine ok_fn hm Try.func45 c45 (by simp) fun hcl => ?_
  simp -implicitDefEqProofs [i45, r45, ckx, hx.vd, hx.ug, hx.sl, hx.len, hx.cell]
  refine call_go (ok36 (l := c.L) (hx.app _) (by omega)) ?_
  simp
  exact cv_fz 1 hcl rfl (by simp; rfl)
theorem ok46 (hx : IsI H x c.L) : Ok Try.prog 46 [ckx x c] H (.ret (bl (c.rule 2))) H := by
  refine ok_fn hm Try.func46 c46 (by simp) fun hcl => ?_
  simp -implicitDefEqProofs [i46, r46, ckx, hx.vd, hx.ug, hx.sl, hx.len, hx.cell]
  refine call_go (ok36 (l := [c.a, c.f]) (own1 (T := 3) rfl rfl) (by simp)) ?_
  simp
  exact cv_fz 1 hcl rfl (by simp; rfl)
theorem ok47 (hx : IsI H x c.L) : Ok Try.prog 47 [ckx x c] H (.ret (bl (c.rule 3))) H := by
  refine ok_fn hm Try.func47 c47 (by simp) fun hcl => ?_
  simp -implicitDefEqProofs [i47, r47, ckx, hx.vd, hx.ug, hx.sl, hx.len, hx.cell]
  refine call_go (ok36 (l := [c.s, c.la]) (own1 (T := 3) rfl rfl) (by simp)) ?_
  simp
  refine cv_fz 1 hcl rfl ?_
  simp [Ck.rule]
theorem ok48 (hx : IsI H x c.L) (hl : c.L.length < 4611686018427387904) : Ok Try.prog 48 [ckx x c] H (.ret (bl (c.rule 4))) H := by
  refine ok_fn hm Try.func48 c48 (by simp) fun hcl => ?_
  simp -implicitDefEqProofs [i48, r48, ckx, hx.vd, hx.ug, hx.sl, hx.len, hx.cell]
  rw [wrap_id (by omega) (by omega)]
  refine call_go (ok36 (l := [c.t, c.fa]) (own1 (T := 3) rfl rfl) (by simp)) ?_
  simp
  exact cv_fz 1 hcl rfl (by simp; rfl)
theorem ok49 (hx : IsI H x c.L) : Ok Try.prog 49 [ckx x c] H (.ret (bl (c.rule 5))) H := by
  refine ok_fn hm Try.func49 c49 (by simp) fun hcl => ?_
  simp -implicitDefEqProofs [i49, r49, ckx, hx.vd, hx.ug, hx.sl, hx.len, hx.cell]
  exact cv_fz 1 hcl rfl (by simp [Ck.rule])
theorem ok50 (hx : IsI H x c.L) : Ok Try.prog 50 [ckx x c] H (.ret (bl (c.rule 6))) H := by
  refine ok_fn hm Try.func50 c50 (by simp) fun hcl => ?_
  simp -implicitDefEqProofs [i50, r50, ckx, hx.vd, hx.ug, hx.sl, hx.len, hx.cell]
  exact cv_fz 1 hcl rfl (by simp [Ck.rule])
theorem ok51 (hx : IsI H x c.L) (hf : c.fa < c.L.length) : Ok Try.prog 51 [ckx x c] H (.ret (bl (c.rule 7))) H := by
  refine ok_fn hm Try.func51 c51 (by simp) fun hcl => ?_
  by_cases h : c.fa < 0
  · simp [i51, r51, ckx, hx.vd, hx.ug, hx.sl, hx.len, hx.cell, h, show ¬ 0 ≤ c.fa by omega]
    refine cv_fz 1 hcl rfl ?_
    simp [Ck.rule, h]
  · have hk : c.fa.toNat < c.L.length := by omega
    have h0 : 0 ≤ c.fa := by omega
    simp -implicitDefEqProofs [i51, r51, ckx, hx.vd, hx.ug, hx.sl, hx.len, hx.cell, h, h0, hf, hx.vA _ hk, hx.okA _ hk]
    refine cv_fz 1 hcl rfl ?_
    simp [Ck.rule, h, hk]
end
end Go.Proofs.Ytffafdbipfadoaa
