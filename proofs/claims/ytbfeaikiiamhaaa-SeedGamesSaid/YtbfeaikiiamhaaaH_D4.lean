/-
  Steps of the proof: contracts of functions and plain facts that the statement rests on.
-/
import Derived.Test.YtbfeaikiiamhaaaH_D3
set_option linter.all false
namespace Go.Proofs.Ytbfeaikiiamhaaa.Rc
open Go.Ab
/-- What a walk finds. -/
structure W3 where
  P : List Int
  D : List Int
  L : List Int
def kids (w : Nat → W3 → Option Nat × W3) : List Int → Nat → W3 → Option Nat × W3
  | [], r, s => (some r, s)
  | c :: cs, r, s => if c = r then (match w r s with | (none, s) => (none, s) | (some r, s) => kids w cs r s) else (none, s)
def walkS (ns : List Nd) : Nat → Int → Int → Nat → W3 → Option Nat × W3
  | 0, _, _, _, s => (none, s)
  | f + 1, par, dep, k, s =>
    match ns[k]? with
    | none => (none, s)
    | some x =>
      match kids (walkS ns f k (dep + 1)) x.nx (k + 1) ⟨s.P.set k par, s.D.set k dep, s.L⟩ with
      | (none, s) => (none, s)
      | (some r, s) => (some r, ⟨s.P, s.D, s.L.set k (r - 1)⟩)
def rr (l : List Int) : AO := ⟨ints l, 3, 1, true⟩
def upd (H : List AO) (a b c : Nat) (s : W3) : List AO := ((H.set a (rr s.P)).set b (rr s.D)).set c (rr s.L)
section
variable {H : List AO} {a b c j : Nat} {s t : W3} {g : Gm}
theorem upd_len : (upd H a b c s).length = H.length := by simp [upd]
theorem objCells_get {H H' : List AO} {j : Nat} (h : H'[j]? = H[j]?) (v : Nat) : objCells H' j v = objCells H j v := by unfold objCells; rw [h]
/-- Three places. -/
structure P3 (H : List AO) (a b c : Nat) : Prop where
  ab : a < b
  bc : b < c
  lt : c < H.length
theorem upd_a (h : P3 H a b c) : objCells (upd H a b c s) a 1 = ints s.P := by
  have := h.ab; have := h.bc; have := h.lt
  refine objCells_of (o := rr s.P) ?_ rfl
  unfold upd
  rw [List.getElem?_set_ne (by omega), List.getElem?_set_ne (by omega), List.getElem?_set_self (by omega)]
theorem upd_b (h : P3 H a b c) : objCells (upd H a b c s) b 1 = ints s.D := by
  have := h.ab; have := h.bc; have := h.lt
  refine objCells_of (o := rr s.D) ?_ rfl
  unfold upd
  rw [List.getElem?_set_ne (by omega), List.getElem?_set_self (by simp; omega)]
theorem upd_c (h : P3 H a b c) : objCells (upd H a b c s) c 1 = ints s.L := by
  have := h.ab; have := h.bc; have := h.lt
  refine objCells_of (o := rr s.L) ?_ rfl
  unfold upd
  rw [List.getElem?_set_self (by simp; omega)]
theorem upd_o (h1 : j ≠ a) (h2 : j ≠ b) (h3 : j ≠ c) : objCells (upd H a b c s) j 0 = objCells H j 0 := by
  refine objCells_get ?_ 0
  unfold upd
  rw [List.getElem?_set_ne (by omega), List.getElem?_set_ne (by omega), List.getElem?_set_ne (by omega)]
theorem upd_sa (h : P3 H a b c) (f : AO → AO) (l : List Int) (hf : f (rr s.P) = rr l) : Ab.setObj (upd H a b c s) a f = upd H a b c ⟨l, s.D, s.L⟩ := by
  have := h.ab; have := h.bc; have := h.lt
  rw [setObj_some (o := rr s.P), hf]
  · unfold upd
    rw [List.set_comm _ _ (show c ≠ a by omega), List.set_comm _ _ (show b ≠ a by omega), List.set_set]
  · unfold upd
    rw [List.getElem?_set_ne (by omega), List.getElem?_set_ne (by omega), List.getElem?_set_self (by omega)]
theorem upd_sb (h : P3 H a b c) (f : AO → AO) (l : List Int) (hf : f (rr s.D) = rr l) : Ab.setObj (upd H a b c s) b f = upd H a b c ⟨s.P, l, s.L⟩ := by
  have := h.ab; have := h.bc; have := h.lt
  rw [setObj_some (o := rr s.D), hf]
  · unfold upd
    rw [List.set_comm _ _ (show c ≠ b by omega), List.set_set]
  · unfold upd
    rw [List.getElem?_set_ne (by omega), List.getElem?_set_self (by simp; omega)]
theorem upd_sc (h : P3 H a b c) (f : AO → AO) (l : List Int) (hf : f (rr s.L) = rr l) : Ab.setObj (upd H a b c s) c f = upd H a b c ⟨s.P, s.D, l⟩ := by
  have := h.ab; have := h.bc; have := h.lt
  rw [setObj_some (o := rr s.L), hf]
  · unfold upd
    rw [List.set_set]
  · unfold upd
    rw [List.getElem?_set_self (by simp; omega)]
theorem nds_drop {ns : List Nd} {k : Nat} (h : k < ns.length) : nds (ns.drop k) = ns[k].cells ++ nds (ns.drop (k + 1)) := by
  rw [List.drop_eq_getElem_cons h]; rfl
theorem nds_len : ∀ ns : List Nd, (nds ns).length = 6 * ns.length
  | [] => rfl
  | x :: r => by simp [nds, nds_len r, Nd.cells]; omega
end
end Go.Proofs.Ytbfeaikiiamhaaa.Rc

