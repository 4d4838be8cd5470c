/-
  What a row asks of a law, out of its contract.
-/
import Derived.Test.YtffafdbipfadoaaAbO
import Derived.WalkKit
import Derived.ProofKit
import Derived.OpenShut
import Derived.ShutString
import Derived.ChangeOld
import Derived.Below
import Derived.Carry
import Derived.KernelRfl
set_option linter.all false
namespace Go.Ab
open Go.ChangeShapes Go.WideShapes Go.ChangeAt Go.RowKit

def Sh.chkAll (P : Program) : List Sh → List TypeId → Bool
  | [], [] => true
  | s :: r, t :: ts => s.chk P t && Sh.chkAll P r ts
  | _, _ => false

section
variable {H : Type} {enc : TypeId × Value → H} {P : Program} {W : World} {base b0 : Nat} {spare : Nat → Bool} {held : Bool} {r : Reach}

theorem read_one {sh : Sh} {t : TypeId} {v : Value} {d : DataW H} {p : List MemPlace} (hc : sh.chk P t = true) (hval : Value.okWide P W r b0 t v) (hd : DataW.Trod enc P W base spare held t v d p) :
    ∃ dt, sh.has dt ∧ VR (st0 W) dt.sv v := by
  obtain ⟨fuel, hf⟩ := hd
  obtain ⟨dt, hh, hv⟩ := read sh hc hf
  refine ⟨dt, hh, ?_⟩
  cases sh with
  | int k =>
    simp only [Sh.chk] at hc
    split at hc
    · rename_i k' ht
      obtain ⟨n, rfl⟩ := okWide_int ht hval
      obtain ⟨m, rfl, _⟩ := hh
      exact hv.2 0 _ _ rfl (by simp [Value.cells])
    · cases hc
  | bool =>
    simp only [Sh.chk] at hc
    split at hc
    · rename_i ht
      obtain ⟨n, rfl⟩ := okWide_bool ht hval
      obtain ⟨m, rfl⟩ := hh
      exact hv.2 0 _ _ rfl (by simp [Value.cells])
    · cases hc
  | str =>
    simp only [Sh.chk] at hc
    split at hc
    · rename_i ht
      obtain ⟨n, rfl⟩ := okWide_string ht hval
      obtain ⟨m, rfl, _⟩ := hh
      exact hv.2 0 _ _ rfl (by simp [Value.cells])
    · cases hc
  | sl e =>
    simp only [Sh.chk] at hc
    split at hc
    · rename_i e' ht
      obtain ⟨a, len, cap, rfl⟩ := okWide_slice ht hval
      obtain ⟨m, rfl, _⟩ := hh
      exact hv.2 0 _ _ rfl (by simp [Value.cells])
    · cases hc
  | st l =>
    simp only [Sh.chk] at hc
    split at hc
    · rename_i fs ht
      obtain ⟨cs, rfl, _⟩ := okWide_struct ht hval
      obtain ⟨m, rfl, _⟩ := hh
      have : VR (st0 W) (.agg (Dt.cellsL m)) (.agg cs.toList.toArray) := VR.of_agg (by rw [Dt.cells] at hv; simpa [Value.cells] using hv)
      simpa [Dt.sv] using this
    · cases hc

theorem read_args : ∀ (shs : List Sh) {ts : List TypeId} {vs : List Value} {ds : List (DataW H)} {p : List MemPlace}, Sh.chkAll P shs ts = true →
    (∀ (j : Nat) t v, ts[j]? = some t → vs[j]? = some v → Value.okWide P W r b0 t v) → DataW.TrodAll enc P W base spare held ts vs ds p →
    ∃ dts, Sh.hasL shs dts ∧ VRs (st0 W) (dts.map Dt.sv) vs
  | [], ts, vs, ds, p, hc, hval, h => by
    cases ts with
    | nil => obtain ⟨rfl, _, _⟩ := trodAll_nil h; exact ⟨[], rfl, VRs.nil _⟩
    | cons t ts => simp [Sh.chkAll] at hc
  | s :: shs, ts, vs, ds, p, hc, hval, h => by
    cases ts with
    | nil => simp [Sh.chkAll] at hc
    | cons t ts =>
      simp only [Sh.chkAll, Bool.and_eq_true] at hc
      obtain ⟨v, vs', d, ds', p, q, rfl, rfl, rfl, h1, h2⟩ := trodAll_cons h
      obtain ⟨dt, g1, g2⟩ := read_one hc.1 (hval 0 t v rfl rfl) h1
      obtain ⟨dts, g3, g4⟩ := read_args shs hc.2 (fun j t v ht hv => hval (j + 1) t v (by simpa using ht) (by simpa using hv)) h2
      exact ⟨dt :: dts, ⟨dt, dts, rfl, g1, g3⟩, VRs.cons g2 g4⟩

theorem below_all (hl : laidOutB P = true) {W' : World} (hb : Below W.heap.size W W') : ∀ {ts : List TypeId} {vs : List Value} {ds : List (DataW H)} {p : List MemPlace},
    (∀ t ∈ ts, P.readableRec t = true ∧ t < P.types.size) → DataW.TrodAll enc P W 0 (fun _ => true) true ts vs ds p → DataW.TrodAll enc P W' 0 (fun b => decide (b < W.heap.size)) true ts vs ds p
  | [], vs, ds, p, _, h => by obtain ⟨rfl, rfl, rfl⟩ := trodAll_nil h; exact trodAll_mk0
  | t :: ts, vs, ds, p, hr, h => by
    obtain ⟨v, vs', d, ds', p, q, rfl, rfl, rfl, h1, h2⟩ := trodAll_cons h
    have hlt : ∀ x ∈ p, x.block < W.heap.size := by obtain ⟨m, hm⟩ := h1; exact DataW.trod_lt m _ _ _ hm
    exact trodAll_cons_mk (Below.trod hl (hr t (by simp)).1 (hr t (by simp)).2 h1 hb hlt) (below_all hl hb (fun t ht => hr t (by simp [ht])) h2)
theorem trodAll_len : ∀ {ts : List TypeId} {vs : List Value} {ds : List (DataW H)} {p : List MemPlace}, DataW.TrodAll enc P W base spare held ts vs ds p → ds.length = ts.length
  | [], vs, ds, p, h => by obtain ⟨rfl, rfl, rfl⟩ := trodAll_nil h; rfl
  | t :: ts, vs, ds, p, h => by
    obtain ⟨v, vs', d, ds', p, q, rfl, rfl, rfl, h1, h2⟩ := trodAll_cons h
    simp [trodAll_len h2]

/-- THE CONTRACT that a row asks of a law. -/
theorem law_contract {f : FuncId} {fn : Func} {s : ChangeSpec} (shs : List Sh) (hl : laidOutB P = true) (hc : Sh.chkAll P shs fn.params.toList = true) (hr : ∀ t ∈ fn.params.toList, P.readableRec t = true ∧ t < P.types.size)
    (hvars : s.vars = []) (hfn : ∀ ds : List (DataW H), ds.length = fn.params.size → s.fn H ds = { results := [.lit (.bool true)], args := ds }) {tb : TypeId} (hres : fn.resultTypes = #[tb]) (htb : P.underlying tb = some .bool)
    (hok : ∀ dts, Sh.hasL shs dts → Ok P f (dts.map Dt.sv) [] (.ret (bl true)) [])
    (args : Array Value) (ds gs : List (DataW H)) (before : List MemPlace)
    (hval : ∀ (j : Nat) t v, fn.params[j]? = some t → args[j]? = some v → Value.okWide P W r b0 t v) (hW : DataW.Whole enc P fn.params.toList s.vars false W args.toList ds gs before) :
    Calls P f args W fun e W' => ∃ v, e = .returned v ∧ s.post enc P fn false true false false W args v W' := by
  have hW' := hW
  obtain ⟨p, q, hA, hV, rfl, hfz, hnd⟩ := hW
  rw [hvars] at hV
  obtain ⟨rfl, rfl⟩ := trodVars_none hV
  obtain ⟨dts, h1, h2⟩ := read_args shs hc (fun j t v ht hv => hval j t v (by simpa using ht) (by simpa using hv)) hA
  have h3 := ok_calls (hok dts h1) h2
  refine h3.mono fun e W' ⟨he, bel⟩ => ?_
  subst he
  have hlen : ds.length = fn.params.size := by rw [trodAll_len hA]; simp
  have hf2 := hfn (ds ++ []) (by simpa using hlen)
  refine ⟨_, rfl, ds, [], _, [], p, [], hW', ?_, ?_, ?_, bel.frame _, fun h => by cases h⟩
  · rw [hres, hf2]
    exact trodAll_mk1 (shut_bool htb true)
  · rw [hf2]
    simpa using below_all hl bel hr hA
  · rw [hf2, hvars]; rfl
end
end Go.Ab
