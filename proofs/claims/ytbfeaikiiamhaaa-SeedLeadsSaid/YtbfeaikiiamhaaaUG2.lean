/-
  Steps of the proof: contracts of functions and plain facts that the statement rests on.
-/
import Derived.Test.YtbfeaikiiamhaaaCore4
import Derived.Test.YtbfeaikiiamhaaaPart1
set_option linter.all false
namespace Go.Proofs.Ytbfeaikiiamhaaa.Rc
open Go.Ab
theorem objCells_hit {H : List AO} {j : Nat} (hj : j < H.length) (c : List SV) (T : TypeId) (v : Nat) : objCells (H.set j ⟨c, T, v, true⟩) j v = c := by
  unfold objCells; rw [List.getElem?_set_self hj]; simp
section
variable {H G : List AO}
theorem ok19U (x n : Int) (hn : 0 < n) (hn2 : n ≤ 9223372036854775807) : Ok Try.prog 19 [i64 x, i64 n] H (.ret (i64 (x % n))) H := by
  refine ok_fn hm' Try.func19 c19 (by simp) fun hcl => ?_
  simp -implicitDefEqProofs [i19, r19]
  refine ⟨by omega, ?_⟩
  have h1 := Int.tmod_lt_of_pos x hn
  have h2 := Int.lt_tmod_of_pos x hn
  have h3 := Int.emod_nonneg x (show n ≠ 0 by omega)
  have h4 := Int.emod_lt_of_pos x hn
  have h5 := Int.tmod_eq_emod (a := x) (b := n)
  have h6 : (n.natAbs : Int) = n := by omega
  split
  · have : IntKind.i64.wrap (x.tmod n + n) = x % n := by
      rw [wrap_id (by omega) (by omega)]
      split at h5 <;> omega
    rw [this]; exact cv_id
  · have : x.tmod n = x % n := by split at h5 <;> omega
    rw [this]; exact cv_id
theorem ok30U {l : List Int} {at' n : Int} {jd : Nat} (h : G[jd]? = some ⟨[.slc (ints l) l.length, i64 at'], 54, 0, true⟩) (hl : l.length < 4611686018427387904) (h0 : 0 ≤ at') (hn : n ≤ 9223372036854775807) :
    OkP Try.prog 30 [.ptr (.own jd 0 0 0 0) 0, i64 n] G fun o G' => ∃ v a : Int, o = .ret (i64 v) ∧ 0 ≤ a ∧ 0 ≤ v ∧ (1 ≤ n → v < n) ∧ G' = G.set jd ⟨[.slc (ints l) l.length, i64 a], 54, 0, true⟩ := by
  refine okP_fn hm' Try.func30 c30 (by simp) fun hcl => ?_
  have e := objCells_of h rfl
  have hj := getElem?_lt h
  simp only at e
  simp -implicitDefEqProofs [i30, r30, e, setObj_some h, objCells_hit hj]
  split
  · refine ⟨_, _, ⟨0, rfl, at', h0, by omega, fun _ => by omega, ?_⟩, cv_id⟩
    exact (List.ext_getElem? fun i => by
      rw [List.getElem?_set]; split
      · rename_i e; subst e; rw [h]
      · rfl).symm
  · rename_i hc
    have w1 : IntKind.i64.wrap (at' + 1) = at' + 1 := wrap_id (by omega) (by omega)
    have w2 : IntKind.i64.wrap (at' + 1 - 1) = at' := by rw [wrap_id (by omega) (by omega)]; omega
    have hlt : at'.toNat < l.length := by omega
    rw [w1, w2]
    refine ⟨by omega, by omega, ?_⟩
    simp -implicitDefEqProofs [ints_get hlt]
    refine callq_go (fun _ => ok19U _ n (by omega) hn) ?_
    simp -implicitDefEqProofs
    refine ⟨_, _, ⟨_, rfl, at' + 1, by omega, Int.emod_nonneg _ (by omega), fun _ => Int.emod_lt_of_pos _ (by omega), rfl⟩, cv_id⟩
end
end Go.Proofs.Ytbfeaikiiamhaaa.Rc

