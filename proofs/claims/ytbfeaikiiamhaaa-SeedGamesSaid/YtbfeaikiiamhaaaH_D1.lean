/-
  Steps of the proof: contracts of functions and plain facts that the statement rests on.
-/
import Derived.Test.YtbfeaikiiamhaaaIr33
import Derived.Test.YtbfeaikiiamhaaaCore4
set_option linter.all false
namespace Go.Proofs.Ytbfeaikiiamhaaa.Rc
open Go.Ab
theorem hm : Try.prog.follows .mixedOrders = true := Try.checked.mixed
section
variable {x : SV} {H : List AO} {l : List Int}
/-- A closure's variable, an integer. -/
def bx (H : List AO) (a : Nat) (n : Int) : Prop := objCells H a 0 = [i64 n] ∧ a < H.length
def outR (lo hi n : Int) : Bool := decide (n < lo) || decide (hi < n)
theorem ok72 {a b : Nat} {lo hi : Int} (ha : bx H a lo) (hb : bx H b hi) (n : Int) :
    Ok Try.prog 72 [i64 n, .ptr (.own a 0 0 0 0) 0, .ptr (.own b 0 0 0 0) 0] H (.ret (bl (outR lo hi n))) H := by
  refine ok_fn hm Try.func72 c72 (by simp [ha.2, hb.2]) fun hcl => ?_
  by_cases h1 : n < lo
  · simp -implicitDefEqProofs [i72, r72, ha.1, hb.1, h1, outR]
    exact cv_id
  · simp -implicitDefEqProofs [i72, r72, ha.1, hb.1, h1, outR]
    exact cv_id
/-- The first place of l that is out of range, or -1. -/
def fstOut (lo hi : Int) (l : List Int) : Int := match l.findIdx? (outR lo hi) with | some i => i | none => -1
theorem fstOut_ge {lo hi : Int} {l : List Int} : (0 ≤ fstOut lo hi l) = (l.any (outR lo hi) = true) := by
  unfold fstOut
  cases h : l.findIdx? (outR lo hi) with
  | some i =>
    simp only [Int.natCast_nonneg]
    refine (eq_true ?_).symm
    obtain ⟨hi, h1, h2⟩ := List.findIdx?_eq_some_iff_getElem.1 h
    exact List.any_eq_true.2 ⟨_, List.getElem_mem hi, h1⟩
  | none =>
    rw [List.findIdx?_eq_none_iff] at h
    have : l.any (outR lo hi) = false := by
      rw [List.any_eq_false]; intro x hx; simpa using h x hx
    simp [this]
theorem loop81 (hx : IsI H x l) (hl : l.length < 4611686018427387904) {a b : Nat} {lo up : Int} (ha : bx H a lo) (hb : bx H b up) {N : Nat} {K : XE → Env → List AO → Prop}
    (hret : ∀ env (i : Nat), l.findIdx? (outR lo up) = some i → env.get 4 = i64 i → K .ret env H) (hexit : l.findIdx? (outR lo up) = none → ∀ env, K (.exit 0) env H) :
    ∀ (n i : Nat) (env : Env), i + n = l.length → (∀ j (h : j < l.length), j < i → outR lo up l[j] = false) → env.get 0 = x → env.get 1 = .fn (.func 72) [] [.ptr (.own a 0 0 0 0) 0, .ptr (.own b 0 0 0 0) 0] → env.get 7 = i64 l.length → env.get 8 = i64 i →
      LI Try.prog N drawB l74_0 env H K := by
  intro n
  induction n with
  | zero =>
    intro i env hi hp h0 h1 h7 h8
    refine li_go hm l74_0.eq_1 ?_
    have e : i = l.length := by omega
    simp -implicitDefEqProofs [h7, h8, e]
    refine hexit ?_ _
    rw [List.findIdx?_eq_none_iff]
    intro y hy
    obtain ⟨j, hj, rfl⟩ := List.getElem_of_mem hy
    exact hp j hj (by omega)
  | succ n ih =>
    intro i env hi hp h0 h1 h7 h8
    refine li_go hm l74_0.eq_1 ?_
    have hlt : i < l.length := by omega
    simp -implicitDefEqProofs [h0, h1, h7, h8, hlt, hx.vd, hx.ug, hx.sl, hx.len, hx.v hlt, hx.ok hlt]
    refine call_go (ok72 ha hb _) ?_
    cases ho : outR lo up l[i] with
    | true =>
      simp -implicitDefEqProofs
      refine hret _ i ?_ (by simp)
      rw [List.findIdx?_eq_some_iff_getElem]
      exact ⟨hlt, ho, fun j hj => by simp [hp j (by omega) hj]⟩
    | false =>
      simp -implicitDefEqProofs [h8]
      refine ih (i + 1) _ (by omega) ?_ ?_ ?_ ?_ ?_
      rotate_left
      · simp [h0]
      · simp [h1]
      · simp [h7]
      · simp [h8, wrap_suc (show i < 9223372036854775807 by omega)]
      intro j hj hji
      by_cases e : j = i
      · subst e; exact ho
      · exact hp j hj (by omega)
theorem ok74 (hx : IsI H x l) (hl : l.length < 4611686018427387904) {a b : Nat} {lo up : Int} (ha : bx H a lo) (hb : bx H b up) :
    Ok Try.prog 74 [x, .fn (.func 72) [] [.ptr (.own a 0 0 0 0) 0, .ptr (.own b 0 0 0 0) 0]] H (.ret (i64 (fstOut lo up l))) H := by
  refine ok_fn hm Try.func74 c74 (by simp [ha.2, hb.2, hx.und]) fun hcl => ?_
  simp -implicitDefEqProofs [i74, r74, hx.vd, hx.ug, hx.sl, hx.len]
  refine loop81 hx hl ha hb (fun env i h1 h2 => ?_) (fun h1 env => ?_) l.length 0 _ (by omega) (by omega) (by simp) (by simp) (by simp) (by simp)
  · simp [h2, fstOut, h1]
    exact cv_id
  · simp [fstOut, h1]
    exact cv_id
theorem ok71 (hx : IsI H x l) (hl : l.length < 4611686018427387904) {a b : Nat} {lo up : Int} (ha : bx H a lo) (hb : bx H b up) :
    Ok Try.prog 71 [x, .fn (.func 72) [] [.ptr (.own a 0 0 0 0) 0, .ptr (.own b 0 0 0 0) 0]] H (.ret (bl (l.any (outR lo up)))) H := by
  refine ok_fn hm Try.func71 c71 (by simp [ha.2, hb.2, hx.und]) fun hcl => ?_
  simp -implicitDefEqProofs [i71, r71, hx.vd, hx.ug, hx.sl, hx.len]
  refine call_go (ok74 hx hl ha hb) ?_
  have e : decide (0 ≤ fstOut lo up l) = l.any (outR lo up) := by
    rw [Bool.eq_iff_iff, decide_eq_true_iff, fstOut_ge]
  simp -implicitDefEqProofs
  rw [e]
  exact cv_id
/-- The error of numbers in a range. -/
def within (lo hi : Int) (l : List Int) : Int := if l.any (outR lo hi) then 2 else 0
theorem ok68 (hx : IsI H x l) (hl : l.length < 4611686018427387904) (lo hi : Int) :
    Ok Try.prog 68 [i64 lo, i64 hi, x] H (.ret (i64 (within lo hi l))) H := by
  refine ok_fn hm Try.func68 c68 (by simp [hx.und]) fun hcl => ?_
  simp -implicitDefEqProofs [i68, r68, hx.vd, hx.ug, hx.sl, hx.len]
  refine call_go (ok71 (hx.app _) hl (a := H.length) (b := H.length + 1) (lo := lo) (up := hi) ⟨by simp, by simp⟩ ⟨by simp, by simp⟩) ?_
  by_cases h : l.any (outR lo hi) = true
  · simp -implicitDefEqProofs [h, within]
    exact cv_fz 1 hcl rfl (by simp)
  · simp -implicitDefEqProofs [h, within]
    exact cv_fz 1 hcl rfl (by simp)
end
end Go.Proofs.Ytbfeaikiiamhaaa.Rc

