/-
  A function: what it hands back, and which objects are left.
-/
import Derived.Test.YtffafdbipfadoaaAbE
set_option linter.all false
namespace Go.Ab

inductive RS where
  | t (n : Nat)
  | c1 (slot : Nat)
  | cn (slot n : Nat)

def RS.side (e : Env) (H : List AO) : RS → Prop
  | .t _ => True
  | .c1 s => (e.get s).vd = true ∧ 0 < ((e.get s).ug.at H).length
  | .cn s n => (e.get s).vd = true ∧ n ≤ ((e.get s).ug.at H).length ∧ 0 < n
def RS.ev (e : Env) (H : List AO) : RS → SV
  | .t n => e.get n
  | .c1 s => ((e.get s).ug.at H).headD .any
  | .cn s n => .agg (((e.get s).ug.at H).take n)
def resV (e : Env) (H : List AO) (rs : List RS) : SV :=
  match rs.map (RS.ev e H) with
  | [x] => x
  | l => .tup l
def chkRs (P : Program) : ResultVar → RS → Bool
  | .tmp t, .t n => t == n
  | .cell t T, .c1 s => t == s && oneB P T
  | .cell t T, .cn s n => t == s && aggB P T && sizeB P T n
  | _, _ => false
def chkRes (P : Program) : List ResultVar → List RS → Bool
  | [], [] => true
  | x :: r, y :: s => chkRs P x y && chkRes P r s
  | _, _ => false

/-- From the objects at a function's end to those that its caller is told of. -/
def Cv (n0 : Nat) (r1 : SV) (H1 : List AO) (r : SV) (H' : List AO) : Prop :=
  ∀ (S : St) (v : Value), S.H = H1 → Sim S → VR S r1 v → ∃ ρ', Ext n0 S ⟨ρ', H', S.w⟩ ∧ Sim ⟨ρ', H', S.w⟩ ∧ VR ⟨ρ', H', S.w⟩ r v

/-- No object names one that is not there. -/
def closed (H : List AO) : Prop := ∀ (i : Nat) (o : AO), H[i]? = some o → ∀ s ∈ o.cells, s.under H.length = true

theorem Sim.closed {S : St} (h : Sim S) : closed S.H := fun i o ho s hs => (h.bel i o ho s hs).1

def Fin (n0 : Nat) (rs : List RS) (out : Out) (H' : List AO) : XE → Env → List AO → Prop := fun x env H1 =>
  match x, out with
  | .normal, .ret r => (∀ s ∈ rs, s.side env H1) ∧ Cv n0 (resV env H1 rs) H1 r H'
  | .ret, .ret r => (∀ s ∈ rs, s.side env H1) ∧ Cv n0 (resV env H1 rs) H1 r H'
  | .panic x, .pan y => Cv n0 x H1 y H'
  | _, _ => False

/-- The names of the parameters' slots. -/
def argsEnv (l : List SV) : Env := (List.range l.length).zip l

section
variable {P : Program} {S : St} {N : Nat} {D : Array Oper → List Nat → List Ins → Bool}

theorem zip_get (l : List SV) (k t : Nat) : Env.get ((List.range' k l.length).zip l) t = if k ≤ t ∧ t < k + l.length then l.getD (t - k) .any else .any := by
  induction l generalizing k with
  | nil => simp [Env.get]
  | cons x r ih =>
    simp only [List.length_cons, List.range'_succ, List.zip_cons_cons, Env.get]
    rw [ih]
    by_cases h : k = t
    · subst h; simp
    · rw [if_neg h]
      by_cases h1 : k + 1 ≤ t ∧ t < k + 1 + r.length
      · rw [if_pos h1, if_pos (by omega)]
        have : t - k = (t - (k + 1)) + 1 := by omega
        rw [this]; simp
      · rw [if_neg h1, if_neg (by omega)]

theorem argsEnv_rel {args : List SV} {vs : List Value} (h : VRs S args vs) (m : Nat) : EnvR S (argsEnv args) (vs.toArray ++ Array.replicate m undef) := by
  refine ⟨fun t => ?_⟩
  unfold argsEnv
  rw [List.range_eq_range', zip_get]
  by_cases ht : 0 ≤ t ∧ t < 0 + args.length
  · rw [if_pos ht]
    obtain ⟨u, h1, h2⟩ := h.getD (j := t) (by omega)
    have hlt : t < vs.length := getElem?_lt h1
    rw [Array.getD_eq_getD_getElem?, Array.getElem?_append]
    rw [if_pos (by simpa using hlt)]
    simp only [List.getElem?_toArray, h1, Option.getD_some, Nat.sub_zero]; exact h2
  · rw [if_neg ht]; exact .any _

def readRes (tmps : Array Value) : ResultVar → Sem Value
  | .tmp t => pure (tmps.getD t undef)
  | .cell a t => do loadVar t (← asAddr (tmps.getD a undef))
theorem results_eq (fn : Func) (tmps : Array Value) : results fn tmps = (do
    let vs ← fn.results.mapM (readRes tmps)
    pure (if h : vs.size = 1 then vs[0] else .tuple vs)) := by
  unfold results
  congr 1
theorem run_res {e : Env} {tmps : Array Value} (hS : Sim S) (he : EnvR S e tmps) : ∀ {rvs : List ResultVar} {rs : List RS}, chkRes P rvs rs = true → (∀ s ∈ rs, s.side e S.H) →
    ∃ vs, (rvs.mapM (readRes tmps)).run P S.w = .ok vs S.w ∧ VRs S (rs.map (RS.ev e S.H)) vs
  | [], [], _, _ => ⟨[], rfl, VRs.nil S⟩
  | [], _ :: _, h, _ => by simp [chkRes] at h
  | _ :: _, [], h, _ => by simp [chkRes] at h
  | x :: rvs, y :: rs, h, hs => by
    simp only [chkRes, Bool.and_eq_true] at h
    obtain ⟨vs, h1, h2⟩ := run_res hS he h.2 (fun s hm => hs s (by simp [hm]))
    have h3 := hs y (by simp)
    have h4 := h.1
    unfold chkRs at h4
    split at h4
    · rename_i t n
      simp at h4; subst h4
      refine ⟨tmps.getD t undef :: vs, ?_, VRs.cons (he.get _) h2⟩
      simp [List.mapM_cons, h1, readRes]
    · rename_i t T s
      simp only [Bool.and_eq_true, beq_iff_eq] at h4
      obtain ⟨rfl, h4⟩ := h4
      obtain ⟨g1, g2⟩ := h3
      have h5 := (he.get t).ug g1
      obtain ⟨u, h6, h7⟩ := run_ld1 (P := P) hS h5 h4 g2
      have h0 : ((e.get t).ug.at S.H)[0]? = some ((e.get t).ug.at S.H)[0] := List.getElem?_eq_getElem g2
      obtain ⟨ad, _, h8, _, _⟩ := h5.at hS h0
      refine ⟨u :: vs, ?_, VRs.cons h7 h2⟩
      rw [h8] at h6
      simp only [Instr.loadAt, Instr.sureAddr, Sem.run_bind, Sem.run_pure, Result.andThen_ok] at h6
      rw [List.mapM_cons, readRes, Sem.run_bind, Sem.run_bind, h8]
      simp only [asAddr, Sem.run_pure, Result.andThen_ok, h6, Sem.run_bind, h1]
    · rename_i t T s n
      simp only [Bool.and_eq_true, beq_iff_eq] at h4
      obtain ⟨⟨rfl, h4⟩, h4'⟩ := h4
      obtain ⟨g1, g2, g3⟩ := h3
      have h5 := (he.get t).ug g1
      obtain ⟨u, h6, h7⟩ := run_ldn (P := P) hS h5 h4 h4' g2 g3
      have h0 : ((e.get t).ug.at S.H)[0]? = some (((e.get t).ug.at S.H)[0]'(by omega)) := List.getElem?_eq_getElem (by omega)
      obtain ⟨ad, _, h8, _, _⟩ := h5.at hS h0
      refine ⟨u :: vs, ?_, VRs.cons h7 h2⟩
      rw [h8] at h6
      simp only [Instr.loadAt, Instr.sureAddr, Sem.run_bind, Sem.run_pure, Result.andThen_ok] at h6
      rw [List.mapM_cons, readRes, Sem.run_bind, Sem.run_bind, h8]
      simp only [asAddr, Sem.run_pure, Result.andThen_ok, h6, Sem.run_bind, h1]
    · cases h4

theorem run_results {fn : Func} {e : Env} {tmps : Array Value} (hS : Sim S) (he : EnvR S e tmps) {rs : List RS} (hc : chkRes P fn.results.toList rs = true) (hs : ∀ s ∈ rs, s.side e S.H) :
    ∃ v, (results fn tmps).run P S.w = .ok v S.w ∧ VR S (resV e S.H rs) v := by
  obtain ⟨vs, h1, h2⟩ := run_res hS he hc hs
  have h3 : ∃ arr : Array Value, arr = vs.toArray ∧ (results fn tmps).run P S.w = .ok (if h : arr.size = 1 then arr[0] else .tuple arr) S.w := by
    refine ⟨vs.toArray, rfl, ?_⟩
    rw [results_eq, Array.mapM_eq_mapM_toList]
    simp only [Sem.run_bind, Sem.run_map, h1, Result.andThen_ok, Sem.run_pure]
  obtain ⟨arr, rfl, h3⟩ := h3
  refine ⟨_, h3, ?_⟩
  unfold resV
  revert h2
  generalize rs.map (RS.ev e S.H) = l
  intro h2
  match l, vs, h2 with
  | [], [], h2 => exact VR.of_tup h2
  | [x], [v], h2 => exact h2.2 0 x v rfl rfl
  | x :: y :: r, v :: u :: s, h2 =>
    rw [dif_neg (by simp)]
    exact VR.of_tup h2
  | [], _ :: _, h2 => simp [VRs] at h2
  | [_], [], h2 => simp [VRs] at h2
  | [_], _ :: _ :: _, h2 => simp [VRs] at h2
  | _ :: _ :: _, [], h2 => simp [VRs] at h2
  | _ :: _ :: _, [_], h2 => simp [VRs] at h2

/-- A FUNCTION's CONTRACT out of its instructions. -/
theorem ok_of (hD : DOk P D) {f : FuncId} {fn : Func} {c : Code} {i : IC} {rs : List RS} {args : List SV} {H : List AO} {out : Out} {H' : List AO} (hf : P.funcs[f]? = some fn) (hb : fn.body = some c)
    (hname : (fn.name == "runtime.NumGoroutine") = false) (hn : args.length ≤ fn.ntmps) (hc : chkC P fn.ntmps D c i = true) (hr : chkRes P fn.results.toList rs = true)
    (hx : closed H → X P fn.ntmps D i (argsEnv args) H (Fin H.length rs out H')) : Ok P f args H out H' := by
  refine ⟨fun vs w => Go.MuLone.run_callFunc_enter hf hname hb vs w, ?_⟩
  intro S vs hH hS hvs
  subst hH
  refine calls_of_wp hf hb ?_
  have hl : vs.length = args.length := hvs.1
  have hw := X_sound hD i hc (hx hS.closed) S ⟨vs.toArray ++ Array.replicate (fn.ntmps - vs.toArray.size) undef, []⟩ rfl hS (argsEnv_rel hvs _) (by simp; omega) rfl
  refine wp_mono hw ?_
  rintro e a w ⟨x, env, ρ, H1, g1, g2, g3, g4, g5, g6, g7⟩
  have ret : ∀ r, out = .ret r → ((∀ s ∈ rs, s.side env H1) ∧ Cv S.H.length (resV env H1 rs) H1 r H') →
      a.defers = [] ∧ ∃ v, (results fn a.tmps).run P w = .ok v w ∧ ∃ (v' : Value) (ρ' : Nat → Option Nat), Ext S.H.length S ⟨ρ', H', w⟩ ∧ Sim ⟨ρ', H', w⟩ ∧
      match out with
      | .ret r => Ending.returned v = .returned v' ∧ VR ⟨ρ', H', w⟩ r v'
      | .pan x => Ending.returned v = .panicked [{ v := v', recovered := false }] ∧ VR ⟨ρ', H', w⟩ x v' := by
    rintro r rfl ⟨h1, h2⟩
    obtain ⟨v, h3, h4⟩ := run_results (P := P) (S := ⟨ρ, H1, w⟩) g3 g4 hr h1
    obtain ⟨ρ', h5, h6, h7⟩ := h2 ⟨ρ, H1, w⟩ v rfl g3 h4
    exact ⟨g6, v, h3, v, ρ', g2.trans h5, h6, rfl, h7⟩
  cases x <;> cases e <;> simp only [ER] at g1
  · cases out with
    | ret r => exact ret r rfl g7
    | pan x => exact g7.elim
  · cases out <;> exact g7.elim
  · cases out <;> exact g7.elim
  · cases out with
    | ret r => exact ret r rfl g7
    | pan x => exact g7.elim
  · cases out with
    | ret r => exact g7.elim
    | pan y =>
      obtain ⟨v, rfl, hv⟩ := g1
      obtain ⟨ρ', h5, h6, h7⟩ := g7 ⟨ρ, H1, w⟩ v rfl g3 hv
      exact ⟨g6, v, ρ', g2.trans h5, h6, rfl, h7⟩

end
end Go.Ab
