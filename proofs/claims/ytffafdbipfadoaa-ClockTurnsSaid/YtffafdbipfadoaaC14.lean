/-
  Steps of the proof: contracts of functions and plain facts that the statement rests on.
-/
import Derived.Test.YtffafdbipfadoaaC13
set_option linter.all false
namespace Go.Proofs.Ytffafdbipfadoaa
open Go.Ab
@[simp] theorem set_new (H L : List AO) (k : Nat) (o : AO) : (H ++ L).set (H.length + k) o = H ++ L.set k o := by rw [List.set_append_right _ _ (by omega)]; simp
@[simp] theorem set_new0 (H L : List AO) (o : AO) : (H ++ L).set H.length o = H ++ L.set 0 o := set_new H L 0 o
def takeD (l : List Int) : Nat → Nat → List Int × Nat
  | 0, a => ([], a)
  | n + 1, a => ((nx l a 5000).1 :: (takeD l n (nx l a 5000).2).1, (takeD l n (nx l a 5000).2).2)
theorem takeD_len (l : List Int) : ∀ n a, (takeD l n a).1.length = n
  | 0, _ => rfl
  | n + 1, a => by simp [takeD, takeD_len l n]
theorem takeD_le (l : List Int) : ∀ n a, a ≤ l.length → (takeD l n a).2 ≤ l.length
  | 0, _, h => h
  | n + 1, a, h => takeD_le l n _ (nx_le h)
theorem takeD_bd (l : List Int) : ∀ n a, ∀ x ∈ (takeD l n a).1, 0 ≤ x ∧ x < 5000
  | 0, _, x, h => by simp [takeD] at h
  | n + 1, a, x, h => by
    simp only [takeD, List.mem_cons] at h
    rcases h with rfl | h
    · exact nx_bd (by omega)
    · exact takeD_bd l n _ x h
section
variable {H : List AO}
theorem loop28 {l : List Int} (hl : l.length < 4611686018427387904) {acc0 : List Int} {a0 : Nat} {N : Nat} {K : XE → Env → List AO → Prop}
    (hexit : ∀ env M, env.get 2 = .ptr (.own H.length 0 0 0 0) 0 → env.get 4 = .ptr (.own (H.length + 1) 0 0 0 0) 0 → env.get 5 = .own (H.length + 2) 0 acc0.length 1 acc0.length →
      K (.exit 0) env (H ++ ⟨zc, 24, 0, true⟩ :: drO l a0 :: ⟨ints acc0, 3, acc0.length, true⟩ :: M)) :
    ∀ (n a : Nat) (acc : List Int) (env : Env) (M : List AO), acc ++ (takeD l n a).1 = acc0 → (takeD l n a).2 = a0 → acc.length + n ≤ 1000 → a ≤ l.length →
      env.get 2 = .ptr (.own H.length 0 0 0 0) 0 → env.get 4 = .ptr (.own (H.length + 1) 0 0 0 0) 0 → env.get 5 = .own (H.length + 2) 0 acc.length 1 acc.length → env.get 6 = i64 n →
      LI Try.prog N drawB l28_0 env (H ++ ⟨zc, 24, 0, true⟩ :: drO l a :: ⟨ints acc, 3, acc.length, true⟩ :: M) K := by
  intro n
  induction n with
  | zero =>
    intro a acc env M h1 h2 h3 ha e2 e4 e5 e6
    refine li_go hm l28_0.eq_1 ?_
    simp only [takeD, List.append_nil] at h1 h2
    subst h1 h2
    simp -implicitDefEqProofs [e6]
    exact hexit _ M (by simp [e2]) (by simp [e4]) (by simp [e5])
  | succ n ih =>
    intro a acc env M h1 h2 h3 ha e2 e4 e5 e6
    refine li_go hm l28_0.eq_1 ?_
    simp -implicitDefEqProofs [e2, e4, e5, e6, show 0 < (n : Int) + 1 by omega]
    refine call_go (ok30 (j := H.length + 1) (l := l) (a := a) (by simp) ha hl 5000 (by omega)) ?_
    simp -implicitDefEqProofs [e2, e4, e5, e6]
    refine ⟨by omega, by omega, ?_⟩
    simp only [takeD] at h1 h2
    rw [show ints acc ++ [i64 (nx l a 5000).1] = ints (acc ++ [(nx l a 5000).1]) by simp [ints], show acc.length + 1 = (acc ++ [(nx l a 5000).1]).length by simp]
    refine ih (nx l a 5000).2 (acc ++ [(nx l a 5000).1]) _ _ (by rw [← h1]; simp) h2 (by simp; omega) (nx_le ha) ?_ ?_ ?_ ?_
    · simp [e2]
    · simp [e4]
    · simp
    · simp [wrap_nat (show n ≤ 9223372036854775807 by omega)]

/-- What 'running' comes to. -/
def runN (l : List Int) : Nat := 1 + (nx l 0 4).1.toNat
def runQ (l : List Int) : List Int × Nat := takeD l (runN l) (nx l 0 4).2
def runA (l : List Int) : Int × Nat := nx l (runQ l).2 200
def runF (l : List Int) : Int × Nat := nx l (runA l).2 300
def runP (l : List Int) : Int × Nat := nx l (runF l).2 (runQ l).1.length
def runC (l : List Int) : Ck := ⟨(runQ l).1, (runA l).1, (runF l).1, (runP l).1, 1000, 1000, -1⟩
theorem runN_bd (l : List Int) : 1 ≤ runN l ∧ runN l ≤ 4 := by
  have := nx_bd (l := l) (a := 0) (n := 4) (by omega)
  unfold runN; omega
theorem runQ_len (l : List Int) : (runQ l).1.length = runN l := takeD_len _ _ _
theorem run_bd (l : List Int) : 1 ≤ (runQ l).1.length ∧ (runQ l).1.length ≤ 4 ∧ (∀ x ∈ (runQ l).1, 0 ≤ x ∧ x < 5000) ∧ 0 ≤ (runA l).1 ∧ (runA l).1 < 200 ∧ 0 ≤ (runF l).1 ∧ (runF l).1 < 300 ∧ 0 ≤ (runP l).1 ∧ (runP l).1 < (runQ l).1.length := by
  have h1 := runN_bd l
  have h2 := runQ_len l
  have h3 := nx_bd (l := l) (a := (runQ l).2) (n := 200) (by omega)
  have h4 := nx_bd (l := l) (a := (runA l).2) (n := 300) (by omega)
  have h5 := nx_bd (l := l) (a := (runF l).2) (n := ((runQ l).1.length : Int)) (by omega)
  exact ⟨by omega, by omega, takeD_bd _ _ _, h3.1, h3.2, h4.1, h4.2, h5.1, h5.2⟩
theorem run_new (l : List Int) : Ck.new (runQ l).1 (runA l).1 (runF l).1 = (⟨(runQ l).1, (runA l).1, (runF l).1, -1, 0, 0, -1⟩, 0) := by
  obtain ⟨h1, h2, h3, h4, h5, h6, h7, h8, h9⟩ := run_bd l
  unfold Ck.new
  rw [if_pos]
  refine (Ck.good _).2 ⟨h1, h2, fun n hn => ?_, h4, by simp; omega, h6, by simp; omega, by simp, by simp, by simp, by simp, by simp; omega, by simp, by simp; omega, by simp, by simp, by simp⟩
  have := h3 n hn; omega
theorem run_start (l : List Int) : (Ck.mk (runQ l).1 (runA l).1 (runF l).1 (-1) 0 0 (-1)).start (runP l).1 1000 = (runC l, 0) := by
  obtain ⟨h1, h2, h3, h4, h5, h6, h7, h8, h9⟩ := run_bd l
  have hc : (Ck.mk (runQ l).1 (runA l).1 (runF l).1 (-1) 0 0 (-1)).chk = true := by
    have := run_new l
    unfold Ck.new at this
    split at this
    · assumption
    · simp at this
  unfold Ck.start
  simp [Ck.tim, hc, Ck.ste, h8, h9, runC]
theorem run_good (l : List Int) : Good (runC l) := by
  obtain ⟨h1, h2, h3, h4, h5, h6, h7, h8, h9⟩ := run_bd l
  refine ⟨h1, h2, fun n hn => ?_, h4, by simp [runC]; omega, h6, by simp [runC]; omega, by simp [runC], by simp [runC], by simp [runC], by simp [runC]; omega, h9, by simp [runC], by simp [runC]; omega, by simp [runC], by simp [runC]; omega, by simp [runC]⟩
  have := h3 n hn; omega
set_option maxRecDepth 10000 in
theorem ok28 {l : List Int} (hl : l.length < 4611686018427387904) : Ok Try.prog 28 [.slc (ints l) l.length] H (.ret (.tup [(runC l).sv, bl true])) H := by
  have b0 := nx_bd (l := l) (a := 0) (n := 4) (by omega)
  have l0 := nx_le (l := l) (a := 0) (n := 4) (by omega)
  have lQ := takeD_le l (runN l) _ l0
  have lA := nx_le (l := l) (n := 200) lQ
  have lF := nx_le (l := l) (n := 300) lA
  obtain ⟨h1, h2, h3, h4, h5, h6, h7, h8, h9⟩ := run_bd l
  have eN : (1 + (nx l 0 4).1 : Int) = (runN l : Nat) := by unfold runN; omega
  refine ok_fn hm Try.func28 c28 (by simp) fun hcl => ?_
  simp -implicitDefEqProofs [i28, r28]
  refine call_go (ok30 (j := H.length + 1) (l := l) (a := 0) (by simp [drO]) (by omega) hl 4 (by omega)) ?_
  simp -implicitDefEqProofs
  rw [wrap_id (by omega) (by omega)]
  refine loop28 (acc0 := (runQ l).1) (a0 := (runQ l).2) hl (fun env M e2 e4 e5 => ?_) (runN l) (nx l 0 4).2 [] _ [] rfl rfl (by have := runN_bd l; simp; omega) l0 (by simp) (by simp) (by simp) (by simp [eN])
  simp -implicitDefEqProofs [e2, e4, e5]
  refine call_go (ok30 (j := H.length + 1) (l := l) (a := (runQ l).2) (by simp) lQ hl 200 (by omega)) ?_
  simp -implicitDefEqProofs [e2, e4, e5]
  refine call_go (ok30 (j := H.length + 1) (l := l) (a := (runA l).2) (by simp [runA]) lA hl 300 (by omega)) ?_
  simp -implicitDefEqProofs [e2, e4, e5]
  refine call_go (ok10 (l := (runQ l).1) (IsI.whole (T := 3) (k := 2) (ver := (runQ l).1.length) rfl rfl) (by omega) (runA l).1 (runF l).1) ?_
  rw [run_new]
  simp -implicitDefEqProofs [e2, e4, e5, sv_eq]
  refine call_go (ok30 (j := H.length + 1) (l := l) (a := (runF l).2) (by simp [runF]) lF hl (runQ l).1.length (by omega)) ?_
  simp -implicitDefEqProofs [e2, e4, e5]
  have hh := fun H => ok15 (H := H) (c := ⟨(runQ l).1, (runA l).1, (runF l).1, -1, 0, 0, -1⟩) (isv _ _) (by simp; omega) (runP l).1 1000
  rw [run_start] at hh
  simp only [ckx, sv_eq] at hh
  refine callq_go (fun _ => hh _) ?_
  simp -implicitDefEqProofs [e2, e4, e5]
  refine ⟨by simp [zc], cv_fz 4 hcl rfl ?_⟩
  simp [sv_eq, runC, h8, h9]
end
end Go.Proofs.Ytffafdbipfadoaa
