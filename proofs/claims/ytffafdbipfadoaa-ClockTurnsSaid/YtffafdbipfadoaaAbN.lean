/-
  From a function's contract with no objects to what the rows ask.
-/
import Derived.Test.YtffafdbipfadoaaAbM
import Derived.Below
set_option linter.all false
namespace Go.Ab
open Go.RowKit

/-- The state at a call from outside: all that is there is only read. -/
def st0 (W : World) : St := ⟨fun _ => none, [], W⟩
theorem sim0 (W : World) : Sim (st0 W) :=
  ⟨fun i o h => by simp [st0] at h, fun i o h => by simp [st0] at h, fun i j o o' b h => by simp [st0] at h⟩
theorem rw0 (W : World) (k : Nat) : ¬ (st0 W).rw k := by
  rintro ⟨i, o, h, _⟩; simp [st0] at h
theorem below_of_ext {W W' : World} {ρ : Nat → Option Nat} {H : List AO} (h : Ext 0 (st0 W) ⟨ρ, H, W'⟩) : Below W.heap.size W W' :=
  ⟨h.os, h.tape, h.output, h.size, fun k hk => (h.imm k hk (rw0 W k)).1⟩
theorem ok_calls {P : Program} {f : FuncId} {args : List SV} (h : Ok P f args [] (.ret (bl true)) []) {W : World} {vs : List Value} (hv : VRs (st0 W) args vs) :
    Calls P f vs.toArray W fun e W' => e = .returned (.bool true) ∧ Below W.heap.size W W' := by
  refine (h.2 (st0 W) vs rfl (sim0 W) hv).mono ?_
  rintro e W' ⟨v, ρ', hext, _, rfl, hv⟩
  refine ⟨?_, below_of_ext hext⟩
  have := hv.isB rfl
  rw [this]; rfl
/-- A slice of integers that came in. -/
theorem vr_ints {W : World} {x : Addr} {len cap : Nat} {zs : List Int} (hl : len ≤ cap) (hz : cap ≤ zs.length) (hc : ∀ i, i < zs.length → W.cell? (x.add i) = some (.int .i64 (zs.getD i 0))) :
    VR (st0 W) (.slc (ints (zs.take len)) (zs.take len).length) (.slice (some x) len cap) := by
  have e : (zs.take len).length = len := by simp; omega
  rw [e]
  refine .slc _ len x cap ((zs.take len).map fun n => .int .i64 n) hl (by simp) ⟨?_, fun _ => rw0 W _⟩ ?_
  · intro j u hj
    rw [List.getElem?_map, Option.map_eq_some_iff] at hj
    obtain ⟨n, hn, rfl⟩ := hj
    rw [List.getElem?_take] at hn
    split at hn
    · have hlt := getElem?_lt hn
      have := hc j hlt
      rw [List.getD_eq_getElem?_getD, hn] at this
      exact this
    · cases hn
  · intro j s u hs hu
    simp only [ints, List.getElem?_map, Option.map_eq_some_iff] at hs hu
    obtain ⟨n, hn, rfl⟩ := hs
    obtain ⟨m, hm, rfl⟩ := hu
    rw [hn] at hm; cases hm
    exact .val _
end Go.Ab
