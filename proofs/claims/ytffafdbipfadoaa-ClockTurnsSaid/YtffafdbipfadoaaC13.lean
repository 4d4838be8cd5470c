/-
  Steps of the proof: contracts of functions and plain facts that the statement rests on.
-/
import Derived.Test.YtffafdbipfadoaaC12
set_option linter.all false
namespace Go.Proofs.Ytffafdbipfadoaa
open Go.Ab
section
variable {H : List AO}
theorem tmod_fix {x n : Int} (hn : 1 ≤ n) : (if x.tmod n < 0 then x.tmod n + n else x.tmod n) = x % n := by
  rw [Int.tmod_eq_emod]
  have h1 := Int.emod_nonneg x (show n ≠ 0 by omega)
  have h2 := Int.emod_lt_of_pos x (show 0 < n by omega)
  have h3 : n ∣ x → x % n = 0 := Int.emod_eq_zero_of_dvd
  split
  · split
    · omega
    · simp
  · rename_i h
    have h4 : (n.natAbs : Int) = n := by omega
    split
    · omega
    · rename_i h5
      have : ¬ n ∣ x := fun hd => h (.inr hd)
      have : x % n ≠ 0 := fun e => this (Int.dvd_of_emod_eq_zero e)
      omega
theorem tmod_bd {x n : Int} (hn : 1 ≤ n) : -n < x.tmod n ∧ x.tmod n < n := by
  have h1 := Int.tmod_lt_of_pos x (show 0 < n by omega)
  have h2 : -(x.tmod n) < n := by rw [← Int.neg_tmod]; exact Int.tmod_lt_of_pos _ (by omega)
  omega
theorem ok29 (x n : Int) (h1 : 1 ≤ n) (h2 : n ≤ 9223372036854775807) : Ok Try.prog 29 [i64 x, i64 n] H (.ret (i64 (x % n))) H := by
  refine ok_fn hm Try.func29 c29 (by simp) fun hcl => ?_
  have hb := tmod_bd (x := x) h1
  have hf := tmod_fix (x := x) h1
  simp -implicitDefEqProofs [i29, r29, show ¬ n = 0 by omega]
  split
  · rename_i h
    rw [if_pos h] at hf
    rw [wrap_id (by omega) (by omega), hf]; exact cv_id
  · rename_i h
    rw [if_neg h] at hf
    rw [hf]; exact cv_id

def drO (l : List Int) (a : Nat) : AO := ⟨[.slc (ints l) l.length, i64 a], 55, 0, true⟩
/-- The next number, and where the list then stands. -/
def nx (l : List Int) (a : Nat) (n : Int) : Int × Nat := if l.length ≤ a ∨ n < 1 then (0, a) else (l.getD a 0 % n, a + 1)
theorem nx_le {l : List Int} {a : Nat} {n : Int} (h : a ≤ l.length) : (nx l a n).2 ≤ l.length := by unfold nx; split <;> simp <;> omega
theorem nx_bd {l : List Int} {a : Nat} {n : Int} (h : 1 ≤ n) : 0 ≤ (nx l a n).1 ∧ (nx l a n).1 < n := by
  unfold nx
  split
  · simp; omega
  · exact ⟨Int.emod_nonneg _ (by omega), Int.emod_lt_of_pos _ (by omega)⟩
theorem ok30 {j : Nat} {l : List Int} {a : Nat} (ho : H[j]? = some (drO l a)) (ha : a ≤ l.length) (hl : l.length < 4611686018427387904) (n : Int) (hn : n ≤ 9223372036854775807) :
    Ok Try.prog 30 [.ptr (.own j 0 0 0 0) 0, i64 n] H (.ret (i64 (nx l a n).1)) (H.set j (drO l (nx l a n).2)) := by
  have e1 : objCells H j 0 = [.slc (ints l) l.length, i64 a] := objCells_of (o := drO l a) ho rfl
  have e2 : ∀ f : AO → AO, Ab.setObj H j f = H.set j (f (drO l a)) := fun f => setObj_some ho f
  have e3 : ∀ o : AO, o.live = true → o.ver = 0 → objCells (H.set j o) j 0 = o.cells := by
    intro o h1 h2
    have := objCells_of (H := H.set j o) (i := j) (o := o) (by rw [List.getElem?_set_self (getElem?_lt ho)]) h1
    rw [h2] at this; exact this
  have e4 : H.set j (drO l a) = H := by
    apply List.ext_getElem?
    intro i
    by_cases h : j = i
    · subst h; rw [List.getElem?_set_self (getElem?_lt ho), ho]
    · rw [List.getElem?_set_ne h]
  refine ok_fn hm Try.func30 c30 (by simp) fun hcl => ?_
  by_cases h1 : l.length ≤ a
  · simp -implicitDefEqProofs [i30, r30, e1, h1, show (l.length : Int) ≤ a by omega, nx, e4]
    exact cv_id
  · by_cases h2 : n < 1
    · simp -implicitDefEqProofs [i30, r30, e1, h1, show ¬ (l.length : Int) ≤ a by omega, nx, e4, h2]
      exact cv_id
    · have hlt : a < l.length := by omega
      have e5 : IntKind.i64.wrap ((a : Int) + 1) = (a : Int) + 1 := wrap_suc (by omega)
      have e6 : IntKind.i64.wrap (a : Int) = (a : Int) := wrap_nat (by omega)
      simp -implicitDefEqProofs [i30, r30, e1, h1, show ¬ (l.length : Int) ≤ a by omega, nx, e2, h2, drO, e3, e5, e6, hlt]
      refine ⟨by omega, ?_⟩
      refine callq_go (fun _ => ok29 l[a] n (by omega) hn) ?_
      simp -implicitDefEqProofs
      exact cv_id
end
end Go.Proofs.Ytffafdbipfadoaa
