/-
  The instructions that make or write memory.
-/
import Derived.Test.YtffafdbipfadoaaAb9
import Derived.Laws.Append
set_option linter.all false
namespace Go.Ab

inductive E where
  | alc (T : TypeId) (z : List SV)
  | box (T : TypeId) (x : Od)
  | bsl (T : TypeId) (sz len : Nat) (z : List SV) (parts : List (Nat × Od))
  | mks (T : TypeId) (sz bytes : Nat) (z : List SV) (len cap : Od)
  | app (T : TypeId) (sz bytes : Nat) (s x : Od)
  | st (n : Nat) (p x : Od)
  | cpy (sz : Nat) (d s : Od)
  | call (f : Od) (args : List Od)
  | nil (T : TypeId) (sz : Nat) (x : Od)
  | sl0 (T : TypeId) (sz : Nat) (x : Od)
  | snil (neg right : Bool) (x : Od)

def SV.isNil : SV → Bool
  | .val (.slice none 0 0) => true
  | _ => false
def cellsOk (l : List SV) : Prop := ∀ s ∈ l, s.isCell = true

/-- The row of a slice with its first n elements. -/
def SV.els (H : List AO) (sz : Nat) (s : SV) : List SV := (s.row H).take (s.slen * sz)

/-- Object i with a cell replaced. -/
def setObj (H : List AO) (i : Nat) (f : AO → AO) : List AO :=
  match H[i]? with
  | some o => H.set i (f o)
  | none => H
def AO.put (o : AO) (off : Nat) (cs : List SV) : AO := { o with cells := o.cells.take off ++ cs ++ o.cells.drop (off + cs.length) }
def AO.grow (o : AO) (cs : List SV) : AO := { o with cells := o.cells ++ cs, ver := o.ver + 1 }

def xe (i : E) (g : Od → SV) (H : List AO) (K : SV → List AO → Prop) : Prop :=
  match i with
  | .alc T z => K (.ptr (.own H.length 0 0 0 0) 0) (H ++ [⟨z, T, 0, true⟩])
  | .box T x => (g x).vd = true ∧ cellsOk (g x).ug.flat ∧ K (.ptr (.own H.length 0 0 0 0) 0) (H ++ [⟨(g x).ug.flat, T, 0, true⟩])
  | .bsl T sz len z parts =>
    (∀ p ∈ parts, partOk sz (g p.2) ∧ p.1 * sz + sz ≤ len * sz) ∧ cellsOk (fillS (List.replicate len z).flatten (parts.map fun p => (p.1 * sz, g p.2))) ∧
      K (.own H.length 0 len sz 0) (H ++ [⟨fillS (List.replicate len z).flatten (parts.map fun p => (p.1 * sz, g p.2)), T, 0, true⟩])
  | .mks T sz bytes z len cap =>
    (g len).isN = true ∧ (g cap).isN = true ∧ 0 ≤ (g len).int ∧ (g len).int ≤ (g cap).int ∧ bytes * (g cap).int ≤ 140737488355328 ∧ (g cap).int ≤ 140737488355328 ∧
      K (.own H.length 0 (g len).int.toNat sz 0) (H ++ [⟨(List.replicate (g len).int.toNat z).flatten, T, 0, true⟩])
  | .app T sz bytes s x =>
    (g s).vd = true ∧ (g x).vd = true ∧ (g x).ug.isSl = true ∧ (g x).ug.slen * sz ≤ ((g x).ug.row H).length ∧ cellsOk ((g x).ug.els H sz) ∧
      ((g s).ug.slen + (g x).ug.slen) * bytes ≤ 140737488355328 ∧ (g s).ug.slen + (g x).ug.slen ≤ 140737488355328 ∧
      match (g s).ug with
      | .own i 0 n sz' ver =>
        sz' = sz ∧ (∃ o, H[i]? = some o ∧ o.live = true ∧ o.ver = ver ∧ o.ty = T ∧ o.cells.length = n * sz) ∧ K (.own i 0 (n + (g x).ug.slen) sz (ver + 1)) (setObj H i fun o => o.grow ((g x).ug.els H sz))
      | _ => False
  | .st n p x =>
    (g p).vd = true ∧ (g x).vd = true ∧ cellsOk (g x).ug.flat ∧ (g x).ug.flat.length = n ∧ 0 < n ∧
      match (g p).ug with
      | .ptr (.own i off _ _ ver) k => off + k + n ≤ (objCells H i ver).length ∧ K (.val undef) (setObj H i fun o => o.put (off + k) (g x).ug.flat)
      | _ => False
  | .nil T sz x => (g x).vd = true ∧ (g x).ug.isNil = true ∧ K (.own H.length 0 0 sz 0) (H ++ [⟨[], T, 0, true⟩])
  | .sl0 T sz x => (g x).vd = true ∧ (g x).ug.isSl = true ∧ K (.own H.length 0 0 sz 0) (H ++ [⟨[], T, 0, true⟩])
  | .snil neg _ x => (g x).vd = true ∧ (g x).ug.isSl = true ∧ ((g x).ug.slen ≠ 0 → K (bl neg) H) ∧ ((g x).ug.slen = 0 → K (bl neg) H ∧ K (bl (!neg)) H)
  | _ => False

def infoB (P : Program) (t : TypeId) (sz bytes : Nat) : Bool := match P.info? t with | some i => i.size == sz && i.bytes == bytes && (match i.zero with | some z => z.cells.size == sz | none => false) | none => false
def bslB : List (Nat × Operand) → List (Nat × Od) → Bool
  | [], [] => true
  | (f, x) :: r, (f', y) :: s => f == f' && chkOd x y && bslB r s
  | _, _ => false
def slTB (P : Program) (t e : TypeId) : Bool := match P.underlying t with | some (.slice e') => e' == e | _ => false

def chkE (P : Program) (op : Op) (i : E) : Bool :=
  match i with
  | .alc T z => match op with | .alloc T' => T' == T && zeroB P T z | _ => false
  | .box T x' => match op with | .box T' x => T' == T && chkOd x x' | _ => false
  | .bsl T sz len z parts => match op with | .buildSlice t len' ps => slTB P t T && sizeB P T sz && len' == len && zeroB P T z && z.length == sz && decide (len * sz ≤ 16777216) && bslB ps.toList parts | _ => false
  | .mks T sz bytes z len cap => match op with | .makeSlice t l c => slTB P t T && infoB P T sz bytes && zeroB P T z && z.length == sz && chkOd l len && chkOd c cap | _ => false
  | .app T sz bytes s x => match op with
    | .call { callee := .builtin .append, args := as, argTypes := ts } => (match as.toList, ts.toList with
      | [s', x'], [t, t'] => t == t' && chkOd s' s && chkOd x' x && slTB P t T && infoB P T sz bytes && decide (0 < sz)
      | _, _ => false)
    | _ => false
  | .st n p x => match op with | .store t p' x' => chkOd p' p && chkOd x' x && sizeB P t n | _ => false
  | .nil _ _ x => match op with | .move x' | .assign x' => chkOd x' x | _ => false
  | .sl0 T _ x => match op with | .slice t x' none (some (.const (.int _ 0))) (some (.const (.int _ 0))) => chkOd x' x && slTB P t T && (P.info? T).isSome | _ => false
  | .snil neg right x => match op with
    | .binOp op t x' y' _ => (if neg then op == .neq else op == .eql) && chkOd (if right then x' else y') x && (match (if right then y' else x') with | .const (.slice none 0 0) => true | _ => false) &&
      (match P.underlying t with | some (.slice _) => true | _ => false)
    | _ => false
  | .call f args => match op with | .call { callee := .value f', args := as, argTypes := _ } => chkOd f' f && chkOds as.toList args | _ => false
  | _ => false

section
variable {P : Program} {S : St} {e : Env} {a : Act}

theorem slTB_spec {t T : TypeId} (h : slTB P t T = true) : P.underlying t = some (.slice T) := by
  unfold slTB at h
  split at h
  · rename_i e' hu; simp at h; subst h; exact hu
  · cases h
theorem infoB_spec {t : TypeId} {sz bytes : Nat} (h : infoB P t sz bytes = true) : ∃ i z, P.info? t = some i ∧ i.zero = some z ∧ i.size = sz ∧ i.bytes = bytes ∧ z.cells.size = sz := by
  unfold infoB at h
  split at h
  · rename_i i hi
    rw [Bool.and_eq_true, Bool.and_eq_true, beq_iff_eq, beq_iff_eq] at h
    obtain ⟨⟨h1, h2⟩, h3⟩ := h
    split at h3
    · rename_i z hz; exact ⟨i, z, hi, hz, h1, h2, by simpa using h3⟩
    · cases h3
  · cases h

theorem setRow_eq (w : World) (g : Nat) (cs cur : Array Value) (T : TypeId) (f : Nat × Nat) (hg : w.heap[g]? = some (.cells cur T f)) :
    w.setRow g cs = { w with heap := w.heap.setIfInBounds g (.cells cs T f) } := by
  unfold World.setRow
  congr 1
  apply Array.ext_getElem?
  intro j
  rw [Array.getElem?_modify, Array.getElem?_setIfInBounds]
  have hlt : g < w.heap.size := by
    rcases Nat.lt_or_ge g w.heap.size with h1 | h1
    · exact h1
    · rw [Array.getElem?_eq_none h1] at hg; cases hg
  by_cases h : g = j
  · subst h; rw [if_pos rfl, if_pos rfl, if_pos hlt, hg]; rfl
  · rw [if_neg h, if_neg h]

/-- What a slice holds lies there. -/
theorem VR.els {s : SV} {v : Value} {sz : Nat} (hS : Sim S) (hv : VR S s v) (hs : s.isSl = true) (hl : s.slen * sz ≤ (s.row S.H).length) :
    ∃ ad cap us, v = .slice ad s.slen cap ∧ us.length = s.slen * sz ∧ VRs S (s.els S.H sz) us ∧ (∀ x, ad = some x → ∀ j u, us[j]? = some u → S.w.cell? (x.add j) = some u) ∧ (ad = none → s.slen = 0) := by
  cases hv with
  | slc cells len ad cap us hc hl' hi h =>
    simp only [SV.slen, SV.row, SV.els] at *
    refine ⟨some ad, cap, us.take (len * sz), rfl, by simp; omega, ⟨by simp; omega, ?_⟩, ?_, fun h => by cases h⟩
    · exact (VRs.take (S := S) ⟨hl', h⟩ _).2
    · intro x hx j u hj
      cases hx
      rw [List.getElem?_take] at hj
      split at hj
      · exact hi.1 j u hj
      · cases hj
  | nilslc => exact ⟨none, 0, [], rfl, by simp [SV.slen], by simpa [SV.els, SV.row] using VRs.nil S, fun x hx => by (cases hx), fun _ => rfl⟩
  | own i off len sz' ver ad cap o ho hv hc hz h =>
    simp only [SV.slen, SV.row, SV.els, List.length_drop] at *
    by_cases h0 : len * sz = 0
    · refine ⟨ad, cap, [], rfl, by simp [h0], ?_, fun x hx j u hj => by simp at hj, hz⟩
      rw [h0]; simpa using VRs.nil S
    · have hne : off < (objCells S.H i ver).length := by omega
      obtain ⟨o', b, us, rest, u, ho', hl', hv', hρ, hh, hvr, _⟩ := hS.read (List.getElem?_eq_getElem hne)
      rw [ho] at ho'; cases ho'
      have hcells : objCells S.H i ver = o.cells := by
        unfold objCells; rw [ho]; simp [hl', hv']
      rw [hcells] at hl hne ⊢
      have h2 := h hv'
      unfold St.OwnAt at h2
      rw [hρ] at h2
      have hlen0 : len ≠ 0 := fun e => h0 (by simp [e])
      have had : ad = some ⟨b, off, none⟩ := by
        rcases h2 with h2 | h2
        · omega
        · exact h2.1
      subst had
      have hvd := (hvr.drop off).take (len * sz)
      refine ⟨_, cap, (us.drop off).take (len * sz), rfl, ?_, hvd, ?_, hz⟩
      · have := hvr.1; simp; omega
      · intro x hx j u hj
        cases hx
        rw [List.getElem?_take] at hj
        split at hj
        · rw [List.getElem?_drop] at hj
          have hadd : (⟨b, off, none⟩ : Addr).add j = ⟨b, off + j, none⟩ := by unfold Addr.add; split <;> simp_all
          rw [hadd]
          unfold World.cell?
          simp only [hh, Option.isSome_none, Bool.false_eq_true, if_false]
          have : off + j < us.length := getElem?_lt hj
          simp [List.getElem?_append_left this, hj]
        · cases hj
  | val v =>
    have : v = .slice none 0 0 := by cases v <;> simp [SV.isSl] at hs; rename_i a b c; revert hs; cases a <;> cases b <;> cases c <;> simp [SV.isSl]
    subst this
    exact ⟨none, 0, [], rfl, by simp [SV.slen], by simpa [SV.els, SV.row, SV.slen] using VRs.nil S, fun x hx => by (cases hx), fun _ => rfl⟩
  | _ => simp [SV.isSl] at hs

theorem VRs.oneCells {l : List SV} {us : List Value} (h : VRs S l us) (hc : cellsOk l) : ∀ u ∈ us, u.oneCell' = true := by
  intro u hu
  obtain ⟨j, hj⟩ := List.getElem?_of_mem hu
  have hlt : j < l.length := by rw [← h.1]; exact getElem?_lt hj
  exact (h.2 j _ u (List.getElem?_eq_getElem hlt) hj).oneCell (hc _ (List.getElem_mem hlt))
theorem VRs.unders {l : List SV} {us : List Value} (h : VRs S l us) (hc : cellsOk l) : ∀ s ∈ l, s.under S.H.length = true ∧ s.isCell = true := by
  intro s hs
  obtain ⟨j, hj⟩ := List.getElem?_of_mem hs
  obtain ⟨u, _, hv⟩ := h.get hj
  exact ⟨hv.under, hc s hs⟩

/-- The cells of a value. -/
theorem VR.flat {s : SV} {v : Value} (h : VR S s v) (hc : cellsOk s.flat) : ∃ us, v.cells = us.toArray ∧ VRs S s.flat us := by
  cases h with
  | agg l us hl h => exact ⟨us, rfl, hl, h⟩
  | val v =>
    refine ⟨[v], ?_, VRs.cons (.val v) (VRs.nil S)⟩
    have h1 := hc (.val v) (by simp [SV.flat])
    simp only [SV.isCell] at h1
    cases v <;> simp_all [Value.cells, Value.oneCell']
  | any v => have := hc .any (by simp [SV.flat]); simp [SV.isCell] at this
  | gd b x v h0 h => have := hc (.gd b x) (by simp [SV.flat]); simp [SV.isCell] at this
  | nilslc => exact ⟨[_], rfl, VRs.cons .nilslc (VRs.nil S)⟩
  | slc cells len a cap us hc' hl hi h => exact ⟨[_], rfl, VRs.cons (.slc cells len a cap us hc' hl hi h) (VRs.nil S)⟩
  | own i off len sz ver a cap o ho hv hc' hz h => exact ⟨[_], rfl, VRs.cons (.own i off len sz ver a cap o ho hv hc' hz h) (VRs.nil S)⟩
  | ptrI cells len k a us hl hi h => exact ⟨[_], rfl, VRs.cons (.ptrI cells len k a us hl hi h) (VRs.nil S)⟩
  | ptrO i off len sz ver k a o ho hv h => exact ⟨[_], rfl, VRs.cons (.ptrO i off len sz ver k a o ho hv h) (VRs.nil S)⟩
  | tup l us hl h => have := hc (.tup l) (by simp [SV.flat]); simp [SV.isCell] at this
  | fn f x y us vs hl h hl' h' => exact ⟨[_], rfl, VRs.cons (.fn f x y us vs hl h hl' h') (VRs.nil S)⟩
  | ifc t x v h => exact ⟨[_], rfl, VRs.cons (.ifc t x v h) (VRs.nil S)⟩

end
end Go.Ab
