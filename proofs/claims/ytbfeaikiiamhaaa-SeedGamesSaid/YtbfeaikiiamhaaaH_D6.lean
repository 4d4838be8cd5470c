/-
  Steps of the proof: contracts of functions and plain facts that the statement rests on.
-/
import Derived.Test.YtbfeaikiiamhaaaH_D5
set_option linter.all false
namespace Go.Proofs.Ytbfeaikiiamhaaa.Rc
open Go.Ab
def maxL (l : List Int) : Int := l.tail.foldl max (l.headD 0)
section
variable {x : SV} {H : List AO} {l : List Int}
theorem loop63 (hx : IsI H x l) (hl : l.length < 4611686018427387904) {N : Nat} {K : XE → Env → List AO → Prop}
    (hexit : ∀ env, env.get 3 = i64 (maxL l) → K (.exit 0) env H) :
    ∀ (n i : Nat) (acc : Int) (env : Env), i + n = l.length → (l.drop i).foldl max acc = maxL l → env.get 0 = x → env.get 3 = i64 acc → env.get 4 = i64 i → LI Try.prog N drawB l61_0 env H K := by
  intro n
  induction n with
  | zero =>
    intro i acc env hi ha h0 h3 h4
    refine li_go hm l61_0.eq_1 ?_
    have e : i = l.length := by omega
    subst e
    simp -implicitDefEqProofs [h0, h3, h4, hx.vd, hx.ug, hx.sl, hx.len]
    rw [List.drop_length] at ha
    exact hexit _ (by simp [h3]; exact congrArg i64 ha)
  | succ n ih =>
    intro i acc env hi ha h0 h3 h4
    refine li_go hm l61_0.eq_1 ?_
    have hlt : i < l.length := by omega
    rw [List.drop_eq_getElem_cons hlt, List.foldl_cons] at ha
    simp -implicitDefEqProofs [h0, h3, h4, hlt, hx.vd, hx.ug, hx.sl, hx.len, hx.v hlt, hx.ok hlt]
    refine ih (i + 1) (max acc l[i]) _ (by omega) ha ?_ ?_ ?_
    · simp [h0]
    · simp
    · simp [wrap_suc (show i < 9223372036854775807 by omega)]
theorem ok61 (hx : IsI H x l) (hl : l.length < 4611686018427387904) (hne : 0 < l.length) : Ok Try.prog 61 [x] H (.ret (i64 (maxL l))) H := by
  refine ok_fn hm Try.func61 c61 (by simp [hx.und]) fun hcl => ?_
  simp -implicitDefEqProofs [i61, r61, hx.vd, hx.ug, hx.sl, hx.len, show ¬ (l.length : Int) < 1 by omega, hx.v hne, hx.ok hne]
  refine ⟨by omega, ?_⟩
  refine loop63 hx hl (fun env h3 => ?_) (l.length - 1) 1 l[0] _ (by omega) ?_ (by simp) (by simp) (by simp)
  · simp -implicitDefEqProofs [h3]
    exact cv_id
  · cases l with
    | nil => simp at hne
    | cons y r => rfl
/-- The first place of v, or -1. -/
def fstAt (v : Int) (l : List Int) : Int := match l.findIdx? (· == v) with | some i => i | none => -1
theorem loop82 (hx : IsI H x l) (hl : l.length < 4611686018427387904) {v : Int} {N : Nat} {K : XE → Env → List AO → Prop}
    (hret : ∀ env (i : Nat), l.findIdx? (· == v) = some i → env.get 4 = i64 i → K .ret env H) (hexit : l.findIdx? (· == v) = none → ∀ env, K (.exit 0) env H) :
    ∀ (n i : Nat) (env : Env), i + n = l.length → (∀ j (h : j < l.length), j < i → ¬ l[j] = v) → env.get 0 = x → env.get 1 = i64 v → env.get 7 = i64 l.length → env.get 8 = i64 i →
      LI Try.prog N drawB l69_0 env H K := by
  intro n
  induction n with
  | zero =>
    intro i env hi hp h0 h1 h7 h8
    refine li_go hm l69_0.eq_1 ?_
    have e : i = l.length := by omega
    simp -implicitDefEqProofs [h7, h8, e]
    refine hexit ?_ _
    rw [List.findIdx?_eq_none_iff]
    intro y hy
    obtain ⟨j, hj, rfl⟩ := List.getElem_of_mem hy
    simpa using hp j hj (by omega)
  | succ n ih =>
    intro i env hi hp h0 h1 h7 h8
    refine li_go hm l69_0.eq_1 ?_
    have hlt : i < l.length := by omega
    by_cases ho : l[i] = v
    · simp -implicitDefEqProofs [h0, h1, h7, h8, hlt, hx.vd, hx.ug, hx.sl, hx.len, hx.v hlt, hx.ok hlt, ho]
      refine hret _ i ?_ (by simp)
      rw [List.findIdx?_eq_some_iff_getElem]
      exact ⟨hlt, by simpa using ho, fun j hj => by simpa using hp j (by omega) hj⟩
    · simp -implicitDefEqProofs [h0, h1, h7, h8, hlt, hx.vd, hx.ug, hx.sl, hx.len, hx.v hlt, hx.ok hlt, show ¬ v = l[i] from fun e => ho e.symm]
      refine ih (i + 1) _ (by omega) ?_ ?_ ?_ ?_ ?_
      rotate_left
      · simp [h0]
      · simp [h1]
      · simp [h7]
      · simp [h8, wrap_suc (show i < 9223372036854775807 by omega)]
      intro j hj hji
      by_cases e : j = i
      · subst e; exact ho
      · exact hp j hj (by omega)
theorem ok69 (hx : IsI H x l) (hl : l.length < 4611686018427387904) (v : Int) : Ok Try.prog 69 [x, i64 v] H (.ret (i64 (fstAt v l))) H := by
  refine ok_fn hm Try.func69 c69 (by simp [hx.und]) fun hcl => ?_
  simp -implicitDefEqProofs [i69, r69, hx.vd, hx.ug, hx.sl, hx.len]
  refine loop82 hx hl (v := v) (fun env i h1 h2 => ?_) (fun h1 env => ?_) l.length 0 _ (by omega) (by omega) (by simp) (by simp) (by simp) (by simp)
  · simp [h2, fstAt, h1]
    exact cv_id
  · simp [fstAt, h1]
    exact cv_id
theorem fstAt_ge {v : Int} {l : List Int} : decide (0 ≤ fstAt v l) = decide (v ∈ l) := by
  rw [Bool.eq_iff_iff, decide_eq_true_iff, decide_eq_true_iff]
  unfold fstAt
  cases h : l.findIdx? (· == v) with
  | some i =>
    simp only [Int.natCast_nonneg, true_iff]
    obtain ⟨hi, h1, h2⟩ := List.findIdx?_eq_some_iff_getElem.1 h
    rw [← eq_of_beq h1]; exact List.getElem_mem hi
  | none =>
    rw [List.findIdx?_eq_none_iff] at h
    have : v ∉ l := fun hv => by simpa using h v hv
    simp [this]
theorem ok66 (hx : IsI H x l) (hl : l.length < 4611686018427387904) (v : Int) : Ok Try.prog 66 [x, i64 v] H (.ret (bl (decide (v ∈ l)))) H := by
  refine ok_fn hm Try.func66 c66 (by simp [hx.und]) fun hcl => ?_
  simp -implicitDefEqProofs [i66, r66, hx.vd, hx.ug, hx.sl, hx.len]
  refine call_go (ok69 hx hl v) ?_
  simp -implicitDefEqProofs
  rw [fstAt_ge]
  exact cv_id
theorem ok73 (n : Int) : Ok Try.prog 73 [i64 n] H (.ret (bl false)) H := by
  refine ok_fn hm Try.func73 c73 (by simp) fun hcl => ?_
  simp -implicitDefEqProofs [i73, r73]
  exact cv_id
theorem ok70 (m n : Int) : Ok Try.prog 70 [i64 m, i64 n] H (.ret (bl (decide (m < n)))) H := by
  refine ok_fn hm Try.func70 c70 (by simp) fun hcl => ?_
  simp -implicitDefEqProofs [i70, r70]
  refine call_go (ok73 m) ?_
  simp -implicitDefEqProofs
  refine callq_off _ _ _ _ ?_
  simp -implicitDefEqProofs
  exact cv_id
def Srt (l : List Int) : Prop := ∀ k, k < l.length - 1 → ¬ l.getD (k + 1) 0 < l.getD k 0
instance (l : List Int) : Decidable (Srt l) := by unfold Srt; infer_instance
theorem srt_iff {l : List Int} : Srt l ↔ ∀ k (h : k + 1 < l.length), ¬ l[k + 1] < l[k] := by
  constructor
  · intro h k hk
    have := h k (by omega)
    simpa only [List.getD_eq_getElem?_getD, List.getElem?_eq_getElem hk, List.getElem?_eq_getElem (show k < l.length by omega), Option.getD_some] using this
  · intro h k hk
    simp only [List.getD_eq_getElem?_getD, List.getElem?_eq_getElem (show k + 1 < l.length by omega), List.getElem?_eq_getElem (show k < l.length by omega), Option.getD_some]
    exact h k (by omega)
theorem loop80 (hx : IsI H x l) (hl : l.length < 4611686018427387904) {N : Nat} {K : XE → Env → List AO → Prop}
    (hret : ¬ Srt l → ∀ env, env.get 2 = bl false → K .ret env H) (hexit : Srt l → ∀ env, K (.exit 0) env H) :
    ∀ (n : Nat) (env : Env), n < l.length → (∀ k (h : k + 1 < l.length), n ≤ k → ¬ l[k + 1] < l[k]) → env.get 0 = x → env.get 3 = i64 n → LI Try.prog N drawB l67_0 env H K := by
  intro n
  induction n with
  | zero =>
    intro env hi hp h0 h3
    refine li_go hm l67_0.eq_1 ?_
    simp -implicitDefEqProofs [h0, h3]
    exact hexit (srt_iff.2 fun k hk => hp k hk (by omega)) _
  | succ n ih =>
    intro env hi hp h0 h3
    refine li_go hm l67_0.eq_1 ?_
    have w1 : IntKind.i64.wrap (n : Int) = n := wrap_nat (by omega)
    have hlt : n < l.length := by omega
    simp -implicitDefEqProofs [h0, h3, hi, hlt, w1, hx.vd, hx.ug, hx.sl, hx.len, hx.v hlt, hx.ok hlt, hx.v hi, hx.ok hi]
    refine ⟨by omega, ?_⟩
    refine callq_go (fun _ => ok70 _ _) ?_
    by_cases hc : l[n + 1] < l[n]
    · simp -implicitDefEqProofs [hc]
      exact hret (fun h => srt_iff.1 h n hi hc) _ (by simp)
    · simp -implicitDefEqProofs [hc, h3, w1]
      refine ih _ (by omega) ?_ ?_ ?_
      rotate_left
      · simp [h0]
      · simp
      intro k hk hnk
      by_cases e : k = n
      · subst e; exact hc
      · exact hp k hk (by omega)
theorem ok67 (hx : IsI H x l) (hl : l.length < 4611686018427387904) : Ok Try.prog 67 [x] H (.ret (bl (decide (Srt l)))) H := by
  refine ok_fn hm Try.func67 c67 (by simp [hx.und]) fun hcl => ?_
  by_cases h0 : l.length = 0
  · have : l = [] := List.eq_nil_of_length_eq_zero h0
    subst this
    simp -implicitDefEqProofs [i67, r67, hx.vd, hx.ug, hx.sl, hx.len, show IntKind.i64.wrap (-1) = -1 by rfl]
    refine li_go hm l67_0.eq_1 ?_
    simp -implicitDefEqProofs [show Srt [] from srt_iff.2 (fun k h => by simp at h)]
    exact cv_id
  · have w1 : IntKind.i64.wrap ((l.length : Int) - 1) = ((l.length - 1 : Nat) : Int) := by rw [wrap_id (by omega) (by omega)]; omega
    simp -implicitDefEqProofs [i67, r67, hx.vd, hx.ug, hx.sl, hx.len, w1]
    refine loop80 hx hl (fun h1 env h2 => ?_) (fun h1 env => ?_) (l.length - 1) _ (by omega) (by omega) (by simp) (by simp)
    · simp -implicitDefEqProofs [h2, h1]
      exact cv_id
    · simp -implicitDefEqProofs [h1]
      exact cv_id
end
end Go.Proofs.Ytbfeaikiiamhaaa.Rc

