/-
  The arguments, whatever their types are made of: what a reading tells, as abstract values.
-/
import Derived.Test.YtffafdbipfadoaaAbN
import Derived.ChangeArms
import Derived.DataReads
import Derived.WideShapes
import Derived.RowKit
set_option linter.all false
namespace Go.Ab
open Go.ChangeShapes Go.WideShapes Go.RowKit

/-- What types are made of. -/
inductive Sh where
  | int (k : IntKind)
  | bool
  | str
  | sl (e : Sh)
  | st (l : List Sh)
/-- What lies there. -/
inductive Dt where
  | int (k : IntKind) (n : Int)
  | bool (b : Bool)
  | str (s : ByteArray)
  | sl (l : List Dt)
  | agg (l : List Dt)
  deriving Inhabited

mutual
def Dt.cells : Dt → List SV
  | .int k n => [.val (.int k n)]
  | .bool b => [bl b]
  | .str s => [Ab.st s]
  | .sl l => [.slc (Dt.cellsL l) l.length]
  | .agg l => Dt.cellsL l
def Dt.cellsL : List Dt → List SV
  | [] => []
  | d :: r => d.cells ++ Dt.cellsL r
end
/-- The value as a whole. -/
def Dt.sv : Dt → SV
  | .agg l => .agg (Dt.cellsL l)
  | d => d.cells.headD .any
mutual
def Sh.has : Sh → Dt → Prop
  | .int k, d => ∃ n, d = .int k n ∧ (Lit.int k n).wf = true
  | .bool, d => ∃ b, d = .bool b
  | .str, d => ∃ s, d = .str s ∧ s.size ≤ maxLen
  | .sl e, d => ∃ l, d = .sl l ∧ l.length ≤ maxLen ∧ ∀ x ∈ l, e.has x
  | .st l, d => ∃ m, d = .agg m ∧ Sh.hasL l m
def Sh.hasL : List Sh → List Dt → Prop
  | [], m => m = []
  | s :: r, m => ∃ d m', m = d :: m' ∧ s.has d ∧ Sh.hasL r m'
end
mutual
def Sh.chk (P : Program) : Sh → TypeId → Bool
  | .int k, t => match P.underlying t with | some (.int k') => decide (k' = k) | _ => false
  | .bool, t => match P.underlying t with | some .bool => true | _ => false
  | .str, t => match P.underlying t with | some .string => true | _ => false
  | .sl e, t => match P.underlying t with | some (.slice e') => e.chk P e' | _ => false
  | .st l, t => match P.underlying t with | some (.struct fs) => Sh.chkL P l fs.toList 0 (P.cellsOf t) | _ => false
def Sh.chkL (P : Program) : List Sh → List Field → Nat → Nat → Bool
  | [], fs, off, tot => fs.isEmpty && off == tot
  | s :: r, fs, off, tot => match fs with | [] => false | f :: fs => f.offset == off && s.chk P f.type && Sh.chkL P r fs (off + P.cellsOf f.type) tot
end

section
variable {H : Type} {enc : TypeId × Value → H} {P : Program} {W : World} {base : Nat} {spare : Nat → Bool} {held : Bool}

theorem cellsL_append (a b : List Dt) : Dt.cellsL (a ++ b) = Dt.cellsL a ++ Dt.cellsL b := by
  induction a with
  | nil => rfl
  | cons x r ih => simp [Dt.cellsL, ih]

/-- Elements read one by one. -/
theorem read_row {e : TypeId} {sh : Sh} {n : Nat} {a : Addr} {elems : List (DataW H × List MemPlace)}
    (ih : ∀ cs x, DataW.trod enc P W base spare held n e cs = some x → ∃ d, sh.has d ∧ VRs (st0 W) d.cells cs) :
    ∀ k, k ≤ elems.length → (∀ i, i < k → (W.cells? base (a.add (i * P.cellsOf e)) (P.cellsOf e)).bind (DataW.trod enc P W base spare held n e) = elems[i]?) →
      ∃ (ds : List Dt) (us : List Value), ds.length = k ∧ (∀ x ∈ ds, sh.has x) ∧ VRs (st0 W) (Dt.cellsL ds) us ∧ us.length = k * P.cellsOf e ∧ ∀ j u, us[j]? = some u → W.cell? (a.add j) = some u := by
  intro k
  induction k with
  | zero => intro _ _; exact ⟨[], [], rfl, by simp, VRs.nil _, by simp, by simp⟩
  | succ k ihk =>
    intro hk hel
    obtain ⟨ds, us, h1, h2, h3, h4, h5⟩ := ihk (by omega) (fun i hi => hel i (by omega))
    have h6 := hel k (by omega)
    rw [List.getElem?_eq_getElem (by omega), Option.bind_eq_some_iff] at h6
    obtain ⟨cs, hcs, ht⟩ := h6
    obtain ⟨d, hd, hv⟩ := ih cs _ ht
    obtain ⟨_, hlen, hc⟩ := World.cells?_some hcs
    refine ⟨ds ++ [d], us ++ cs, by simp [h1], ?_, ?_, ?_, ?_⟩
    · intro x hx
      rcases List.mem_append.1 hx with hx | hx
      · exact h2 x hx
      · simp at hx; subst hx; exact hd
    · rw [cellsL_append]; simpa [Dt.cellsL] using h3.append hv
    · simp [h4, hlen, Nat.add_mul]
    · intro j u hj
      by_cases hlt : j < us.length
      · rw [List.getElem?_append_left hlt] at hj; exact h5 j u hj
      · rw [List.getElem?_append_right (by omega)] at hj
        have hj' : j - us.length < cs.length := getElem?_lt hj
        have := hc (j - us.length) (by omega)
        rw [hj, add_add] at this
        rw [← this]; congr 2; omega

mutual
theorem read (sh : Sh) : ∀ {t : TypeId} {fuel : Nat} {cs : List Value} {x : DataW H × List MemPlace}, sh.chk P t = true → DataW.trod enc P W base spare held fuel t cs = some x →
    ∃ d, sh.has d ∧ VRs (st0 W) d.cells cs := by
  intro t fuel cs x hc h
  cases sh with
  | int k =>
    simp only [Sh.chk] at hc
    split at hc
    · rename_i k' ht
      have : k' = k := by simpa using hc
      subst this
      obtain ⟨n, rfl, _, hw⟩ := DataW.trod_int ht h
      exact ⟨.int k' n, ⟨n, rfl, hw⟩, VRs.cons (.val _) (VRs.nil _)⟩
    · cases hc
  | bool =>
    simp only [Sh.chk] at hc
    split at hc
    · rename_i ht
      obtain ⟨b, rfl⟩ : ∃ b, cs = [.bool b] := by
        cases fuel with
        | zero => simp [DataW.trod] at h
        | succ n =>
          unfold DataW.trod at h
          rw [ht] at h
          split at h <;> simp_all
      exact ⟨.bool b, ⟨b, rfl⟩, VRs.cons (.val _) (VRs.nil _)⟩
    · cases hc
  | str =>
    simp only [Sh.chk] at hc
    split at hc
    · rename_i ht
      obtain ⟨s, rfl, _, hs⟩ := DataW.trod_string ht h
      exact ⟨.str s, ⟨s, rfl, hs⟩, VRs.cons (.val _) (VRs.nil _)⟩
    · cases hc
  | sl e =>
    simp only [Sh.chk] at hc
    split at hc
    · rename_i e' ht
      rcases DataW.trod_slice ht h with ⟨rfl, _⟩ | ⟨a, len, cap, elems, rest, n, _, rfl, _, hb, hl, hm, hlen, hel, _, _⟩
      · exact ⟨.sl [], ⟨[], rfl, by simp, by simp⟩, VRs.cons .nilslc (VRs.nil _)⟩
      · obtain ⟨ds, us, h1, h2, h3, h4, h5⟩ := read_row (sh := e) (fun cs x hx => read e hc hx) len (by omega) hel
        refine ⟨.sl ds, ⟨ds, rfl, by omega, h2⟩, VRs.cons ?_ (VRs.nil _)⟩
        have : ds.length = len := h1
        subst this
        exact .slc _ _ a cap us hl h3.1 ⟨h5, fun _ => rw0 W _⟩ h3.2
    · cases hc
  | st l =>
    simp only [Sh.chk] at hc
    split at hc
    · rename_i fs ht
      obtain ⟨xs, n, _, _, hl, hlen, hf⟩ := DataW.trod_struct ht h
      obtain ⟨m, hm, hv⟩ := readL l (n := n) (cs := cs) (fs := fs.toList) (off := 0) (xs := xs) hc (fun i f hi => by
        have hlt : i < xs.length := by rw [hlen]; simpa using getElem?_lt hi
        refine ⟨xs[i], ?_⟩
        rw [hf i f (by simpa using hi), List.getElem?_eq_getElem hlt]) hl
      exact ⟨.agg m, ⟨m, rfl, hm⟩, by rw [Dt.cells]; simpa using hv⟩
    · cases hc
theorem readL (l : List Sh) : ∀ {n : Nat} {cs : List Value} {fs : List Field} {off tot : Nat} {xs : List (DataW H × List MemPlace)}, Sh.chkL P l fs off tot = true →
    (∀ (i : Nat) (f : Field), fs[i]? = some f → ∃ x, DataW.trod enc P W base spare held n f.type ((cs.drop f.offset).take (P.cellsOf f.type)) = some x) → cs.length = tot →
    ∃ m, Sh.hasL l m ∧ VRs (st0 W) (Dt.cellsL m) (cs.drop off) := by
  intro n cs fs off tot xs hc hf hl
  cases l with
  | nil =>
    simp only [Sh.chkL, Bool.and_eq_true, List.isEmpty_iff, beq_iff_eq] at hc
    refine ⟨[], rfl, ?_⟩
    rw [List.drop_of_length_le (by omega)]
    exact VRs.nil _
  | cons s r =>
    simp only [Sh.chkL] at hc
    split at hc
    · cases hc
    · rename_i f fs'
      simp only [Bool.and_eq_true, beq_iff_eq] at hc
      obtain ⟨⟨h1, h2⟩, h3⟩ := hc
      obtain ⟨x, hx⟩ := hf 0 f rfl
      obtain ⟨d, hd, hv⟩ := read s h2 hx
      obtain ⟨m, hm, hv'⟩ := readL r (n := n) (cs := cs) (fs := fs') (xs := xs) h3 (fun i f hi => hf (i + 1) f (by simpa using hi)) hl
      refine ⟨d :: m, ⟨d, m, rfl, hd, hm⟩, ?_⟩
      have := hv.append hv'
      rw [h1, ← List.drop_drop, List.take_append_drop] at this
      simpa [Dt.cellsL] using this
end
end
end Go.Ab
