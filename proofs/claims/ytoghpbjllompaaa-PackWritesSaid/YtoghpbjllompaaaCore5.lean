/-
  Steps of the proof: contracts of functions and plain facts that the statement rests on.
-/
import Derived.Test.YtoghpbjllompaaaCore4
import Derived.SizedLaws
set_option linter.all false
/- AbPs -/
namespace Go.Ab
open Go.ChangeShapes Go.WideShapes Go.ChangeAt Go.RowKit

mutual
def Sh.by : Sh → Nat
  | .int k => k.bits / 8
  | .bool => 1
  | .str => 16
  | .sl _ => 24
  | .st l => Sh.byL l
def Sh.byL : List Sh → Nat
  | [] => 0
  | s :: r => s.by + Sh.byL r
end
mutual
def Sh.fit : Sh → Dt → Prop
  | .str, d => ∀ s, d = .str s → s.size ≤ reachBytes
  | .sl e, d => ∀ l, d = .sl l → l.length * e.by ≤ reachBytes ∧ ∀ x ∈ l, e.fit x
  | .st l, d => ∀ m, d = .agg m → Sh.fitL l m
  | _, _ => True
def Sh.fitL : List Sh → List Dt → Prop
  | [], _ => True
  | s :: r, m => match m with | [] => True | d :: m' => s.fit d ∧ Sh.fitL r m'
end
mutual
/-- The types' sizes are at least those that the shapes tell. -/
def Sh.byB (P : Program) : Sh → TypeId → Bool
  | .sl e, t => match P.underlying t with | some (.slice e') => decide (e.by ≤ P.bytesOf e') && e.byB P e' | _ => false
  | .st l, t => match P.underlying t with | some (.struct fs) => Sh.byBL P l (fs.toList.map (·.type)) | _ => false
  | _, _ => true
def Sh.byBL (P : Program) : List Sh → List TypeId → Bool
  | [], _ => true
  | s :: r, ts => match ts with | [] => false | t :: ts => s.byB P t && Sh.byBL P r ts
end

section
variable {H : Type} {enc : TypeId × Value → H} {P : Program} {W : World} {base : Nat} {spare : Nat → Bool} {held : Bool}

def wOk (l : List Nat) : Prop := ∀ n ∈ l, n ≤ reachBytes
theorem wOk_app {a b : List Nat} : wOk (a ++ b) ↔ wOk a ∧ wOk b := by
  unfold wOk
  constructor
  · intro h; exact ⟨fun n hn => h n (by simp [hn]), fun n hn => h n (by simp [hn])⟩
  · rintro ⟨h1, h2⟩ n hn
    rcases List.mem_append.1 hn with hn | hn
    · exact h1 n hn
    · exact h2 n hn
theorem wOk_all {t : TypeId} : ∀ {l : List (DataW H)}, wOk (DataW.weightsAll P t l) → ∀ d ∈ l, wOk (d.weights P t)
  | [], _, d, hd => by simp at hd
  | x :: r, h, d, hd => by
    rw [DataW.weightsAll, wOk_app] at h
    rcases List.mem_cons.1 hd with rfl | hd
    · exact h.1
    · exact wOk_all h.2 d hd
theorem wOk_each : ∀ {ts : List TypeId} {l : List (DataW H)}, wOk (DataW.weightsEach P ts l) → ∀ (i : Nat) (t : TypeId) (d : DataW H), ts[i]? = some t → l[i]? = some d → wOk (d.weights P t)
  | [], _, _, i, t, d, ht, _ => by simp at ht
  | _ :: _, [], _, i, t, d, _, hd => by simp at hd
  | t0 :: ts, d0 :: l, h, i, t, d, ht, hd => by
    rw [DataW.weightsEach, wOk_app] at h
    cases i with
    | zero => simp at ht hd; subst ht hd; exact h.1
    | succ i => simp at ht hd; exact wOk_each h.2 i t d ht hd

/-- Elements read one by one. -/
theorem readS_row {e : TypeId} {sh : Sh} {n : Nat} {a : Addr} {elems : List (DataW H × List MemPlace)} (hw : ∀ x ∈ elems, wOk (x.1.weights P e))
    (ih : ∀ cs x, DataW.trod enc P W base spare held n e cs = some x → wOk (x.1.weights P e) → ∃ d, sh.has d ∧ VRs (st0 W) d.cells cs ∧ sh.fit d) :
    ∀ k, k ≤ elems.length → (∀ i, i < k → (W.cells? base (a.add (i * P.cellsOf e)) (P.cellsOf e)).bind (DataW.trod enc P W base spare held n e) = elems[i]?) →
      ∃ (ds : List Dt) (us : List Value), ds.length = k ∧ (∀ x ∈ ds, sh.has x) ∧ VRs (st0 W) (Dt.cellsL ds) us ∧ us.length = k * P.cellsOf e ∧ (∀ j u, us[j]? = some u → W.cell? (a.add j) = some u) ∧ ∀ x ∈ ds, sh.fit x := by
  intro k
  induction k with
  | zero => intro _ _; exact ⟨[], [], rfl, by simp, VRs.nil _, by simp, by simp, by simp⟩
  | succ k ihk =>
    intro hk hel
    obtain ⟨ds, us, h1, h2, h3, h4, h5, h8⟩ := ihk (by omega) (fun i hi => hel i (by omega))
    have h6 := hel k (by omega)
    rw [List.getElem?_eq_getElem (by omega), Option.bind_eq_some_iff] at h6
    obtain ⟨cs, hcs, ht⟩ := h6
    obtain ⟨d, hd, hv, hft⟩ := ih cs _ ht (hw _ (List.getElem_mem _))
    obtain ⟨_, hlen, hc⟩ := World.cells?_some hcs
    refine ⟨ds ++ [d], us ++ cs, by simp [h1], ?_, ?_, ?_, ?_, ?_⟩
    · intro x hx
      rcases List.mem_append.1 hx with hx | hx
      · exact h2 x hx
      · simp at hx; subst hx; exact hd
    · rw [cellsL_append]; simpa [Dt.cellsL] using h3.append hv
    · simp [h4, hlen, Nat.add_mul]
    · intro j u hj
      by_cases hlt : j < us.length
      · rw [List.getElem?_append_left hlt] at hj; exact h5 j u hj
      · rw [List.getElem?_append_right (by omega)] at hj
        have hj' : j - us.length < cs.length := getElem?_lt hj
        have := hc (j - us.length) (by omega)
        rw [hj, add_add] at this
        rw [← this]; congr 2; omega
    · intro x hx
      rcases List.mem_append.1 hx with hx | hx
      · exact h8 x hx
      · simp at hx; subst hx; exact hft

mutual
theorem readS (sh : Sh) : ∀ {t : TypeId} {fuel : Nat} {cs : List Value} {x : DataW H × List MemPlace}, sh.chk P t = true → sh.byB P t = true → DataW.trod enc P W base spare held fuel t cs = some x → wOk (x.1.weights P t) →
    ∃ d, sh.has d ∧ VRs (st0 W) d.cells cs ∧ sh.fit d := by
  intro t fuel cs x hc hb h hw
  cases sh with
  | int k => obtain ⟨d, h1, h2⟩ := read (.int k) hc h; exact ⟨d, h1, h2, by simp [Sh.fit]⟩
  | bool => obtain ⟨d, h1, h2⟩ := read .bool hc h; exact ⟨d, h1, h2, by simp [Sh.fit]⟩
  | str =>
    simp only [Sh.chk] at hc
    split at hc
    · rename_i ht
      obtain ⟨s, rfl, rfl, hs⟩ := DataW.trod_string ht h
      refine ⟨.str s, ⟨s, rfl, hs⟩, VRs.cons (.val _) (VRs.nil _), ?_⟩
      rw [Sh.fit]
      rintro _ ⟨⟩
      have := hw s.data.toList.length (by simp [DataW.weights])
      simpa using this
    · cases hc
  | sl e =>
    simp only [Sh.chk] at hc
    simp only [Sh.byB] at hb
    split at hc
    · rename_i e' ht
      rw [ht] at hb
      simp only [Bool.and_eq_true, decide_eq_true_eq] at hb
      rcases DataW.trod_slice ht h with ⟨rfl, _⟩ | ⟨a, len, cap, elems, rest, n, _, rfl, rfl, _, hl, hm, hlen, hel, _, _⟩
      · refine ⟨.sl [], ⟨[], rfl, by simp, by simp⟩, VRs.cons .nilslc (VRs.nil _), ?_⟩
        rw [Sh.fit]
        rintro _ ⟨⟩
        exact ⟨by simp, by simp⟩
      · simp only [DataW.weights, ht] at hw
        have hw0 := hw _ (List.mem_cons_self ..)
        have hwa : wOk (DataW.weightsAll P e' (elems.map (·.1)) ++ DataW.weightsAll P e' (rest.map (·.1))) := fun n hn => hw n (List.mem_cons_of_mem _ hn)
        rw [wOk_app] at hwa
        have hwe : ∀ x ∈ elems, wOk (x.1.weights P e') := fun x hx => wOk_all hwa.1 _ (List.mem_map_of_mem hx)
        obtain ⟨ds, us, h1, h2, h3, h4, h5, h6⟩ := readS_row (sh := e) hwe (fun cs x hx hwx => readS e hc hb.2 hx hwx) len (by omega) hel
        refine ⟨.sl ds, ⟨ds, rfl, by omega, h2⟩, VRs.cons ?_ (VRs.nil _), ?_⟩
        · have : ds.length = len := h1
          subst this
          exact .slc _ _ a cap us hl h3.1 ⟨h5, fun _ => rw0 W _⟩ h3.2
        · rw [Sh.fit]
          rintro _ ⟨⟩
          refine ⟨?_, h6⟩
          simp only [List.length_map] at hw0
          have k1 : ds.length * e.by ≤ ds.length * P.bytesOf e' := Nat.mul_le_mul_left _ hb.1
          have k2 : ds.length * P.bytesOf e' ≤ (elems.length + rest.length) * P.bytesOf e' := Nat.mul_le_mul_right _ (by omega)
          omega
    · cases hc
  | st l =>
    simp only [Sh.chk] at hc
    simp only [Sh.byB] at hb
    split at hc
    · rename_i fs ht
      rw [ht] at hb
      simp only at hb
      obtain ⟨xs, n, _, rfl, hl, hlen, hf⟩ := DataW.trod_struct ht h
      simp only [DataW.weights, ht] at hw
      have hwe := wOk_each hw
      obtain ⟨m, hm, hv, hft⟩ := readSL l (n := n) (cs := cs) (fs := fs.toList) (off := 0) hc hb (fun i f hi => by
        have hlt : i < xs.length := by rw [hlen]; simpa using getElem?_lt hi
        refine ⟨xs[i], ?_, hwe i f.type _ (by simp [hi]) (by simp [hlt])⟩
        rw [hf i f (by simpa using hi), List.getElem?_eq_getElem hlt]) hl
      refine ⟨.agg m, ⟨m, rfl, hm⟩, by rw [Dt.cells]; simpa using hv, ?_⟩
      rw [Sh.fit]
      rintro _ ⟨⟩
      exact hft
    · cases hc
theorem readSL (l : List Sh) : ∀ {n : Nat} {cs : List Value} {fs : List Field} {off tot : Nat}, Sh.chkL P l fs off tot = true → Sh.byBL P l (fs.map (·.type)) = true →
    (∀ (i : Nat) (f : Field), fs[i]? = some f → ∃ x, DataW.trod enc P W base spare held n f.type ((cs.drop f.offset).take (P.cellsOf f.type)) = some x ∧ wOk (x.1.weights P f.type)) → cs.length = tot →
    ∃ m, Sh.hasL l m ∧ VRs (st0 W) (Dt.cellsL m) (cs.drop off) ∧ Sh.fitL l m := by
  intro n cs fs off tot hc hb hf hl
  cases l with
  | nil =>
    simp only [Sh.chkL, Bool.and_eq_true, List.isEmpty_iff, beq_iff_eq] at hc
    refine ⟨[], rfl, ?_, by simp [Sh.fitL]⟩
    rw [List.drop_of_length_le (by omega)]
    exact VRs.nil _
  | cons s r =>
    simp only [Sh.chkL] at hc
    split at hc
    · cases hc
    · rename_i f fs'
      simp only [Bool.and_eq_true, beq_iff_eq] at hc
      simp only [List.map_cons, Sh.byBL, Bool.and_eq_true] at hb
      obtain ⟨⟨h1, h2⟩, h3⟩ := hc
      obtain ⟨x, hx, hwx⟩ := hf 0 f rfl
      obtain ⟨d, hd, hv, hft⟩ := readS s h2 hb.1 hx hwx
      obtain ⟨m, hm, hv', hft'⟩ := readSL r (n := n) (cs := cs) (fs := fs') h3 hb.2 (fun i f hi => hf (i + 1) f (by simpa using hi)) hl
      refine ⟨d :: m, ⟨d, m, rfl, hd, hm⟩, ?_, ⟨hft, hft'⟩⟩
      have := hv.append hv'
      rw [h1, ← List.drop_drop, List.take_append_drop] at this
      simpa [Dt.cellsL] using this
end
end
section
variable {H : Type} {enc : TypeId × Value → H} {P : Program} {W : World} {base b0 : Nat} {spare : Nat → Bool} {held : Bool} {r : Reach}
end
end Go.Ab

