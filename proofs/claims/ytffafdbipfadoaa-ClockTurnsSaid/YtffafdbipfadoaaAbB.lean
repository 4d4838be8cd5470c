/-
  The operations that make or write memory do what the instructions say.
-/
import Derived.Test.YtffafdbipfadoaaAbA
import Derived.Laws.AppendOwn
import Derived.Laws.MakeOwn
set_option linter.all false
namespace Go.Ab

section
variable {P : Program} {S : St} {e : Env} {a : Act}

/-- What such an operation comes to. -/
def Eff (P : Program) (S : St) (a : Act) (o : Oper) (K : SV → List AO → Prop) : Prop :=
  ∃ nv S' sv, ((execOp a.eval o).run P S.w = .ok (.value nv) S'.w ∨ ((execOp a.eval o).run P S.w = .ok .skip S'.w ∧ nv = undef)) ∧
    Ext S.H.length S S' ∧ Sim S' ∧ VR S' sv nv ∧ K sv S'.H

theorem new_at (S : St) (cells : List SV) (T : TypeId) (us rest : List Value) : (S.new cells T 0 us rest).H[S.H.length]? = some ⟨cells, T, 0, true⟩ := by simp [St.new]

/-- A new row, and a pointer to it. -/
theorem eff_ptr (hS : Sim S) {cells : List SV} {T : TypeId} {us : List Value} (hv : VRs S cells us) (hc : cellsOk cells) {o : Oper} {K : SV → List AO → Prop}
    (hrun : (execOp a.eval o).run P S.w = .ok (.value (.pointer (some ⟨S.w.heap.size, 0, none⟩))) (S.w.alloc (.cells us.toArray T)))
    (hK : K (.ptr (.own S.H.length 0 0 0 0) 0) (S.H ++ [⟨cells, T, 0, true⟩])) : Eff P S a o K := by
  refine ⟨.pointer (some ⟨S.w.heap.size, 0, none⟩), S.new cells T 0 us [], _, .inl ?_, ext_new S hS _ _ _ _ _, sim_new hS T 0 [] hv (hv.unders hc), ?_, hK⟩
  · rw [hrun]; simp [St.new]
  · exact .ptrO _ _ _ _ _ _ _ _ (new_at S cells T us []) (Nat.le_refl _) fun _ => ⟨S.w.heap.size, by simp [St.new, upd_same], rfl⟩

/-- A new row, and a slice of it. -/
theorem eff_slice (hS : Sim S) {cells : List SV} {T : TypeId} {us rest : List Value} {len cap sz : Nat} (hv : VRs S cells us) (hc : cellsOk cells) {o : Oper} {K : SV → List AO → Prop}
    (hlc : len ≤ cap) (hsz : cap * sz ≤ (us ++ rest).length)
    (hrun : (execOp a.eval o).run P S.w = .ok (.value (.slice (some ⟨S.w.heap.size, 0, none⟩) len cap)) (S.w.alloc (.cells (us ++ rest).toArray T)))
    (hK : K (.own S.H.length 0 len sz 0) (S.H ++ [⟨cells, T, 0, true⟩])) : Eff P S a o K := by
  refine ⟨.slice (some ⟨S.w.heap.size, 0, none⟩) len cap, S.new cells T 0 us rest, _, .inl ?_, ext_new S hS _ _ _ _ _, sim_new hS T 0 rest hv (hv.unders hc), ?_, hK⟩
  · rw [hrun]; simp [St.new]
  · refine .own _ _ _ _ _ _ _ _ (new_at S cells T us rest) (Nat.le_refl _) hlc (fun h => by cases h) fun _ => ?_
    simp only [St.OwnAt, St.new, upd_same]
    refine .inr ⟨trivial, T, (us ++ rest).length, ?_, by omega⟩
    unfold World.shape?
    rw [heap_alloc_at]
    simp

theorem setObj_some {H : List AO} {i : Nat} {o : AO} (h : H[i]? = some o) (f : AO → AO) : setObj H i f = H.set i (f o) := by unfold setObj; rw [h]

theorem bslB_spec : ∀ {ps : List (Nat × Operand)} {qs : List (Nat × Od)}, bslB ps qs = true → EnvR S e a.tmps →
    ps.length = qs.length ∧ ∀ (j : Nat) (p : Nat × Operand) (q : Nat × Od), ps[j]? = some p → qs[j]? = some q → p.1 = q.1 ∧ VR S (e.ev q.2) (a.eval p.2)
  | [], [], _, _ => ⟨rfl, fun j p q h => by simp at h⟩
  | [], _ :: _, h, _ => by simp [bslB] at h
  | _ :: _, [], h, _ => by simp [bslB] at h
  | (f, x) :: ps, (f', y) :: qs, h, he => by
    simp only [bslB, Bool.and_eq_true, beq_iff_eq] at h
    obtain ⟨h1, h2⟩ := bslB_spec h.2 he
    refine ⟨by simp [h1], ?_⟩
    intro j p q hp hq
    cases j with
    | zero => simp at hp hq; subst hp hq; exact ⟨h.1.1, chkOd_spec h.1.2 he⟩
    | succ j => exact h2 j p q (by simpa using hp) (by simpa using hq)

/-- n zero elements -/
theorem zeros_get {z : List Value} (hz : 0 < z.length) (n j : Nat) : (List.replicate n z).flatten[j]? = if j < n * z.length then z[j % z.length]? else none := by
  induction n generalizing j with
  | zero => simp
  | succ n ih =>
    rw [List.replicate_succ, List.flatten_cons, List.getElem?_append]
    by_cases h : j < z.length
    · rw [if_pos h, if_pos (by rw [Nat.succ_mul]; omega), Nat.mod_eq_of_lt h]
    · rw [if_neg h, ih]
      have e1 : (j - z.length) % z.length = j % z.length := by
        rw [← Nat.mod_eq_sub_mod (by omega)]
      have e2 : (j - z.length < n * z.length) ↔ (j < (n + 1) * z.length) := by rw [Nat.succ_mul]; omega
      simp only [e1, e2]
theorem made_eq {z : List Value} (n : Nat) : madeCells z.toArray (n * z.length) = (List.replicate n z).flatten.toArray := by
  apply Array.ext'
  simp only [madeCells, Array.toList_map, Array.toList_range]
  apply List.ext_getElem?
  intro j
  by_cases hz : 0 < z.length
  · rw [zeros_get hz, List.getElem?_map]
    by_cases h : j < n * z.length
    · rw [if_pos h, List.getElem?_range h]
      have h2 : j % z.length < z.length := Nat.mod_lt _ hz
      simp [h2]
    · rw [if_neg h, List.getElem?_eq_none (by simp; omega)]; rfl
  · have hz0 : z = [] := by cases z with | nil => rfl | cons _ _ => simp at hz
    subst hz0
    simp
    
theorem VRs.zeros {z : List SV} {us : List Value} (h : VRs S z us) (n : Nat) : VRs S (List.replicate n z).flatten (List.replicate n us).flatten := by
  induction n with
  | zero => simpa using VRs.nil S
  | succ n ih => rw [List.replicate_succ, List.replicate_succ, List.flatten_cons, List.flatten_cons]; exact h.append ih
theorem cellsOk_zeros {z : List SV} (h : cellsOk z) (n : Nat) : cellsOk (List.replicate n z).flatten := by
  intro s hs
  simp only [List.mem_flatten, List.mem_replicate] at hs
  obtain ⟨l, ⟨_, rfl⟩, hs⟩ := hs
  exact h s hs
theorem length_zeros {α : Type} (z : List α) (n : Nat) : (List.replicate n z).flatten.length = n * z.length := by simp

theorem run_append_zero {t ty el : TypeId} {i : TypeInfo} (ht : P.underlying t = some (.slice el)) (hi : P.info? el = some i) (ad : Option Addr) (n cap : Nat) (hc : n ≤ cap) (x : Option Addr) (c : Nat) (w : World) :
    (Builtin.append_ #[t, t] ty #[.slice ad n cap, .slice x 0 c]).run P w = .ok (.slice ad n cap) w := by
  cases x with
  | none => cases ad <;> simp [Builtin.append_, run_underlying ht, sizeOf, typeInfo, hi, Builtin.lenOf, hc, Builtin.firstCells, storeCells]
  | some x => cases ad <;> simp [Builtin.append_, run_underlying ht, sizeOf, typeInfo, hi, Builtin.lenOf, hc, Builtin.firstCells, loadCells, loadCellsFrom, storeCells]

end
end Go.Ab
