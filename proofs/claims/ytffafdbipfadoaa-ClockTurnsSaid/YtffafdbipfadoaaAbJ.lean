/-
  A function's contract, ready for use; the words by which its instructions are reckoned.
-/
import Derived.Test.YtffafdbipfadoaaAbI
set_option linter.all false
namespace Go.Ab

def chkF (P : Program) (D : Array Oper → List Nat → List Ins → Bool) (fn : Func) (i : IC) (rs : List RS) : Bool :=
  (match fn.body with | some c => chkC P fn.ntmps D c i | none => false) && !(fn.name == "runtime.NumGoroutine") && chkRes P fn.results.toList rs && decide (fn.params.size + fn.nfree ≤ fn.ntmps)

theorem ok_fn {P : Program} (hm : P.follows .mixedOrders = true) {f : FuncId} {fn : Func} {i : IC} {rs : List RS} (hf : P.funcs[f]? = some fn) (hc : chkF P drawB fn i rs = true)
    {args : List SV} {H : List AO} {out : Out} {H' : List AO} (hn : args.length = fn.params.size + fn.nfree)
    (hx : closed H → X P fn.ntmps drawB i (argsEnv args) H (Fin H.length rs out H')) : Ok P f args H out H' := by
  unfold chkF at hc
  rw [Bool.and_eq_true, Bool.and_eq_true, Bool.and_eq_true] at hc
  obtain ⟨⟨⟨h1, h2⟩, h3⟩, h4⟩ := hc
  split at h1
  · rename_i c hb
    exact ok_of (draw_ok hm) hf hb (by simpa using h2) (by rw [hn]; simpa using h4) h1 h3 hx
  · cases h1

/-- A round of a loop. -/
theorem li_round {P : Program} (hm : P.follows .mixedOrders = true) {N : Nat} {i : IC} {env : Env} {H : List AO} {K : XE → Env → List AO → Prop}
    (h : X P N drawB i env H fun x env H => match x with | .normal => LI P N drawB i env H K | x => K x env H) : LI P N drawB i env H K := LI.round (draw_ok hm) h

/-! Words for the reckoning -/
section
variable (e : Env) (H : List AO)
theorem get_cons (k t : Nat) (v : SV) : Env.get ((k, v) :: e) t = if k = t then v else Env.get e t := rfl
theorem ev_t (n : Nat) : Env.ev e (.t n) = e.get n := rfl
theorem ev_c (s : SV) : Env.ev e (.c s) = s := rfl
theorem put_some (d : Nat) (v : SV) : Env.put e (some d) v = (d, v) :: e := rfl
theorem put_none (v : SV) : Env.put e none v = e := rfl
end
theorem isI_val (k k' : IntKind) (n : Int) : (SV.val (.int k n)).isI k' = decide (k = k') := rfl
theorem isI_i64 (n : Int) : (i64 n).isI .i64 = true := rfl
theorem int_i64 (n : Int) : (i64 n).int = n := rfl
theorem isN_i64 (n : Int) : (i64 n).isN = true := rfl
theorem isB_bl (b : Bool) : (bl b).isB = true := rfl
theorem bool_bl (b : Bool) : (bl b).bool = b := rfl
theorem ug_i64 (n : Int) : (i64 n).ug = i64 n := rfl
theorem vd_i64 (n : Int) : (i64 n).vd = true := rfl
theorem ug_bl (b : Bool) : (bl b).ug = bl b := rfl
theorem vd_bl (b : Bool) : (bl b).vd = true := rfl
theorem wrap_id {n : Int} (h1 : -9223372036854775808 ≤ n) (h2 : n ≤ 9223372036854775807) : IntKind.i64.wrap n = n := by rw [IntKind.wrap_i64]; omega
theorem val_i64 (n : Int) : SV.val (.int .i64 n) = i64 n := rfl

/-- The objects of the caller, and then one's own. -/
theorem objCells_new (H L : List AO) (k ver : Nat) : objCells (H ++ L) (H.length + k) ver = objCells L k ver := by
  unfold objCells; rw [List.getElem?_append_right (by omega)]; simp
theorem objCells_new0 (H L : List AO) (ver : Nat) : objCells (H ++ L) H.length ver = objCells L 0 ver := objCells_new H L 0 ver
theorem setObj_new (H L : List AO) (k : Nat) (f : AO → AO) : setObj (H ++ L) (H.length + k) f = H ++ setObj L k f := by
  unfold setObj
  rw [List.getElem?_append_right (by omega)]
  have : H.length + k - H.length = k := by omega
  rw [this]
  cases L[k]? with
  | none => rfl
  | some o => simp
theorem setObj_new0 (H L : List AO) (f : AO → AO) : setObj (H ++ L) H.length f = H ++ setObj L 0 f := setObj_new H L 0 f

end Go.Ab
