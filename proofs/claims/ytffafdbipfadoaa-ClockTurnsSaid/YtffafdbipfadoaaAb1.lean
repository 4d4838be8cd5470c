/-
  The abstract states of a call: values, objects, what relates them to the model's memory; that the relation is kept as memory grows.
-/
import Derived.WalkKit
import Derived.Orders
set_option linter.all false
namespace Go.Ab

inductive SV where
  | any
  | val (v : Value)
  | gd (b : Bool) (x : SV)
  | slc (cells : List SV) (len : Nat)
  | own (i off len sz ver : Nat)
  | ptr (s : SV) (k : Nat)
  | agg (l : List SV)
  | tup (l : List SV)
  | fn (f : Fn) (first cap : List SV)
  | ifc (t : TypeId) (x : SV)
  deriving Inhabited

/-- An object that the call may write: its cells, the type of its row, how often it has been moved, whether it is still its owner's. -/
structure AO where
  cells : List SV
  ty : TypeId
  ver : Nat
  live : Bool

mutual
def SV.under (n : Nat) : SV → Bool
  | .any => true
  | .val _ => true
  | .gd b x => !b || x.under n
  | .slc cs _ => SV.underL n cs
  | .own i _ _ _ _ => decide (i < n)
  | .ptr s _ => s.under n
  | .agg l => SV.underL n l
  | .tup l => SV.underL n l
  | .fn _ a b => SV.underL n a && SV.underL n b
  | .ifc _ x => x.under n
def SV.underL (n : Nat) : List SV → Bool
  | [] => true
  | x :: r => x.under n && SV.underL n r
end

theorem SV.underL_iff (n : Nat) : ∀ l : List SV, SV.underL n l = true ↔ ∀ x ∈ l, x.under n = true
  | [] => by simp [SV.underL]
  | x :: r => by simp [SV.underL, SV.underL_iff n r]

theorem SV.underL_append (n : Nat) (a b : List SV) : SV.underL n (a ++ b) = (SV.underL n a && SV.underL n b) := by
  induction a with
  | nil => simp [SV.underL]
  | cons x r ih => simp [SV.underL, ih, Bool.and_assoc]

mutual
theorem SV.under_mono {n m : Nat} (h : n ≤ m) : ∀ s : SV, s.under n = true → s.under m = true
  | .any, _ => by simp [SV.under]
  | .val _, _ => by simp [SV.under]
  | .gd b x, h1 => by cases b <;> simp only [SV.under, Bool.not_true, Bool.not_false, Bool.true_or, Bool.false_or] at *; exact SV.under_mono h x h1
  | .slc cs _, h1 => by simp only [SV.under] at *; exact SV.underL_mono h cs h1
  | .own i _ _ _ _, h1 => by simp only [SV.under, decide_eq_true_eq] at *; omega
  | .ptr s _, h1 => by simp only [SV.under] at *; exact SV.under_mono h s h1
  | .agg l, h1 => by simp only [SV.under] at *; exact SV.underL_mono h l h1
  | .tup l, h1 => by simp only [SV.under] at *; exact SV.underL_mono h l h1
  | .fn _ a b, h1 => by
    simp only [SV.under, Bool.and_eq_true] at *
    exact ⟨SV.underL_mono h a h1.1, SV.underL_mono h b h1.2⟩
  | .ifc _ x, h1 => by simp only [SV.under] at *; exact SV.under_mono h x h1
theorem SV.underL_mono {n m : Nat} (h : n ≤ m) : ∀ l : List SV, SV.underL n l = true → SV.underL m l = true
  | [], _ => by simp [SV.underL]
  | x :: r, h1 => by
    simp only [SV.underL, Bool.and_eq_true] at *
    exact ⟨SV.under_mono h x h1.1, SV.underL_mono h r h1.2⟩
end

/-- May lie in one cell. -/
def SV.isCell : SV → Bool
  | .val v => v.oneCell'
  | .slc _ _ | .own _ _ _ _ _ | .ptr _ _ | .fn _ _ _ | .ifc _ _ => true
  | _ => false

structure St where
  ρ : Nat → Option Nat
  H : List AO
  w : World

def St.rw (S : St) (k : Nat) : Prop := ∃ i o, S.H[i]? = some o ∧ o.live = true ∧ S.ρ i = some k

/-- These values lie there, where nobody writes. -/
def St.Imm (S : St) (a : Addr) (us : List Value) : Prop :=
  (∀ j u, us[j]? = some u → S.w.cell? (a.add j) = some u) ∧ (us ≠ [] → ¬ S.rw a.block)

def St.OwnAt (S : St) (i off len sz : Nat) (a : Option Addr) (cap : Nat) : Prop :=
  match S.ρ i with
  | none => len = 0 ∧ cap = 0
  | some b => cap = 0 ∨ (a = some ⟨b, off, none⟩ ∧ ∃ T n, S.w.shape? b = some (T, n) ∧ off + cap * sz ≤ n)

inductive VR (S : St) : SV → Value → Prop
  | any (v : Value) : VR S .any v
  | val (v : Value) : VR S (.val v) v
  | gd (b : Bool) (x : SV) (v : Value) (h0 : b = false → v = undef) (h : b = true → VR S x v) : VR S (.gd b x) v
  | nilslc : VR S (.slc [] 0) (.slice none 0 0)
  | slc (cells : List SV) (len : Nat) (a : Addr) (cap : Nat) (us : List Value) (hc : len ≤ cap) (hl : us.length = cells.length) (hi : S.Imm a us)
      (h : ∀ (j : Nat) (s : SV) (u : Value), cells[j]? = some s → us[j]? = some u → VR S s u) : VR S (.slc cells len) (.slice (some a) len cap)
  | own (i off len sz ver : Nat) (a : Option Addr) (cap : Nat) (o : AO) (ho : S.H[i]? = some o) (hv : ver ≤ o.ver) (hc : len ≤ cap) (hz : a = none → len = 0)
      (h : o.ver = ver → S.OwnAt i off len sz a cap) : VR S (.own i off len sz ver) (.slice a len cap)
  | ptrI (cells : List SV) (len k : Nat) (a : Addr) (us : List Value) (hl : us.length = cells.length) (hi : S.Imm a us)
      (h : ∀ (j : Nat) (s : SV) (u : Value), cells[j]? = some s → us[j]? = some u → VR S s u) : VR S (.ptr (.slc cells len) k) (.pointer (some (a.add k)))
  | ptrO (i off len sz ver k : Nat) (a : Addr) (o : AO) (ho : S.H[i]? = some o) (hv : ver ≤ o.ver)
      (h : o.ver = ver → ∃ b, S.ρ i = some b ∧ a = ⟨b, off + k, none⟩) : VR S (.ptr (.own i off len sz ver) k) (.pointer (some a))
  | agg (l : List SV) (us : List Value) (hl : us.length = l.length) (h : ∀ (j : Nat) (s : SV) (u : Value), l[j]? = some s → us[j]? = some u → VR S s u) :
      VR S (.agg l) (.agg us.toArray)
  | tup (l : List SV) (us : List Value) (hl : us.length = l.length) (h : ∀ (j : Nat) (s : SV) (u : Value), l[j]? = some s → us[j]? = some u → VR S s u) :
      VR S (.tup l) (.tuple us.toArray)
  | fn (f : Fn) (x y : List SV) (us vs : List Value) (hl : us.length = x.length) (h : ∀ (j : Nat) (s : SV) (u : Value), x[j]? = some s → us[j]? = some u → VR S s u)
      (hl' : vs.length = y.length) (h' : ∀ (j : Nat) (s : SV) (u : Value), y[j]? = some s → vs[j]? = some u → VR S s u) : VR S (.fn f x y) (.func f us.toArray vs.toArray)
  | ifc (t : TypeId) (x : SV) (v : Value) (h : VR S x v) : VR S (.ifc t x) (.iface t v)

/-- Lists of values, one by one. -/
def VRs (S : St) (l : List SV) (us : List Value) : Prop := us.length = l.length ∧ ∀ (j : Nat) (s : SV) (u : Value), l[j]? = some s → us[j]? = some u → VR S s u

theorem VRs.nil (S : St) : VRs S [] [] := ⟨rfl, fun j s u h => by simp at h⟩
theorem VRs.cons {S : St} {s : SV} {u : Value} {l : List SV} {us : List Value} (h : VR S s u) (hs : VRs S l us) : VRs S (s :: l) (u :: us) := by
  refine ⟨by simp [hs.1], ?_⟩
  intro j s' u' h1 h2
  cases j with
  | zero => simp at h1 h2; subst h1 h2; exact h
  | succ j => simp at h1 h2; exact hs.2 j _ _ h1 h2
theorem VRs.append {S : St} {l l' : List SV} {us us' : List Value} (h : VRs S l us) (h' : VRs S l' us') : VRs S (l ++ l') (us ++ us') := by
  refine ⟨by simp [h.1, h'.1], ?_⟩
  intro j s u h1 h2
  rw [List.getElem?_append] at h1 h2
  by_cases hj : j < l.length
  · rw [if_pos hj] at h1
    rw [if_pos (by rw [h.1]; exact hj)] at h2
    exact h.2 j _ _ h1 h2
  · rw [if_neg hj] at h1
    rw [if_neg (by rw [h.1]; exact hj), h.1] at h2
    exact h'.2 _ _ _ h1 h2
theorem VRs.get {S : St} {l : List SV} {us : List Value} (h : VRs S l us) {j : Nat} {s : SV} (hj : l[j]? = some s) : ∃ u, us[j]? = some u ∧ VR S s u := by
  have hlt : j < us.length := by
    rw [h.1]
    rcases Nat.lt_or_ge j l.length with h1 | h1
    · exact h1
    · rw [List.getElem?_eq_none h1] at hj; cases hj
  exact ⟨us[j], List.getElem?_eq_getElem hlt, h.2 j s _ hj (List.getElem?_eq_getElem hlt)⟩
theorem VRs.take {S : St} {l : List SV} {us : List Value} (h : VRs S l us) (n : Nat) : VRs S (l.take n) (us.take n) := by
  refine ⟨by simp [h.1], ?_⟩
  intro j s u h1 h2
  rw [List.getElem?_take] at h1 h2
  by_cases hj : j < n
  · rw [if_pos hj] at h1 h2; exact h.2 j _ _ h1 h2
  · rw [if_neg hj] at h1; cases h1
theorem VRs.drop {S : St} {l : List SV} {us : List Value} (h : VRs S l us) (n : Nat) : VRs S (l.drop n) (us.drop n) := by
  refine ⟨by simp [h.1], ?_⟩
  intro j s u h1 h2
  rw [List.getElem?_drop] at h1 h2
  exact h.2 _ _ _ h1 h2
theorem VRs.set {S : St} {l : List SV} {us : List Value} (h : VRs S l us) (i : Nat) {s : SV} {u : Value} (hs : VR S s u) : VRs S (l.set i s) (us.set i u) := by
  refine ⟨by simp [h.1], ?_⟩
  intro j s' u' h1 h2
  rw [List.getElem?_set] at h1 h2
  by_cases hj : i = j
  · subst hj
    simp only [if_true] at h1 h2
    by_cases hl : i < l.length
    · rw [if_pos hl] at h1
      rw [if_pos (by rw [h.1]; exact hl)] at h2
      cases h1; cases h2; exact hs
    · rw [if_neg hl] at h1; cases h1
  · rw [if_neg hj] at h1 h2; exact h.2 _ _ _ h1 h2

/-- The first n objects are kept (a moved one under a new number); no block that nobody may write has turned. -/
structure Ext (n : Nat) (S S' : St) : Prop where
  obj : ∀ i o, i < n → S.H[i]? = some o → ∃ o', S'.H[i]? = some o' ∧ o.ver ≤ o'.ver ∧ (o.ver = o'.ver → S'.ρ i = S.ρ i)
  imm : ∀ k, k < S.w.heap.size → ¬ S.rw k → S'.w.heap[k]? = S.w.heap[k]? ∧ ¬ S'.rw k
  size : S.w.heap.size ≤ S'.w.heap.size
  shape : ∀ k T m, S.w.shape? k = some (T, m) → S'.w.shape? k = some (T, m)
  os : S'.w.os = S.w.os
  tape : S'.w.tape = S.w.tape
  output : S'.w.output = S.w.output

theorem Ext.refl (n : Nat) (S : St) : Ext n S S :=
  ⟨fun _ o _ h => ⟨o, h, Nat.le_refl _, fun _ => rfl⟩, fun _ _ h => ⟨rfl, h⟩, Nat.le_refl _, fun _ _ _ h => h, rfl, rfl, rfl⟩
theorem Ext.trans {n : Nat} {S S' S'' : St} (h : Ext n S S') (h' : Ext n S' S'') : Ext n S S'' where
  obj := by
    intro i o hi ho
    obtain ⟨o', ho', h1, h2⟩ := h.obj i o hi ho
    obtain ⟨o'', ho'', h3, h4⟩ := h'.obj i o' hi ho'
    exact ⟨o'', ho'', Nat.le_trans h1 h3, fun e => (h4 (by omega)).trans (h2 (by omega))⟩
  imm := by
    intro k hk hn
    obtain ⟨h1, h2⟩ := h.imm k hk hn
    obtain ⟨h3, h4⟩ := h'.imm k (Nat.lt_of_lt_of_le hk h.size) h2
    exact ⟨h3.trans h1, h4⟩
  size := Nat.le_trans h.size h'.size
  shape := fun k T m hs => h'.shape k T m (h.shape k T m hs)
  os := h'.os.trans h.os
  tape := h'.tape.trans h.tape
  output := h'.output.trans h.output
theorem Ext.mono {n m : Nat} {S S' : St} (h : Ext n S S') (hm : m ≤ n) : Ext m S S' :=
  ⟨fun i o hi ho => h.obj i o (by omega) ho, h.imm, h.size, h.shape, h.os, h.tape, h.output⟩

theorem Ext.len {n : Nat} {S S' : St} (h : Ext n S S') (hn : S.H.length ≤ n) : S.H.length ≤ S'.H.length := by
  rcases Nat.lt_or_ge S'.H.length S.H.length with h1 | h1
  · have h2 : S'.H.length < S.H.length := h1
    obtain ⟨o', ho', _⟩ := h.obj S'.H.length S.H[S'.H.length] (by omega) (List.getElem?_eq_getElem h2)
    rw [List.getElem?_eq_none (Nat.le_refl _)] at ho'; cases ho'
  · exact h1
theorem Ext.len' {n : Nat} {S S' : St} (h : Ext n S S') (hn : n ≤ S.H.length) : n ≤ S'.H.length := by
  rcases Nat.lt_or_ge S'.H.length n with h1 | h1
  · have h2 : S'.H.length < S.H.length := by omega
    obtain ⟨o', ho', _⟩ := h.obj S'.H.length S.H[S'.H.length] (by omega) (List.getElem?_eq_getElem h2)
    rw [List.getElem?_eq_none (Nat.le_refl _)] at ho'; cases ho'
  · exact h1

theorem St.Imm.ext {n : Nat} {S S' : St} {a : Addr} {us : List Value} (h : S.Imm a us) (he : Ext n S S') : S'.Imm a us := by
  obtain ⟨h1, h2⟩ := h
  have key : us ≠ [] → a.block < S.w.heap.size := by
    intro hne
    cases us with
    | nil => exact absurd rfl hne
    | cons u r =>
      have := h1 0 u (by simp)
      have hb := World.block_lt_of_cell? (a := a.add 0) S.w this
      simpa [Addr.add] using hb
  have hblk : ∀ j, (a.add j).block = a.block := by intro j; unfold Addr.add; split <;> rfl
  refine ⟨?_, ?_⟩
  · intro j u hj
    have hne : us ≠ [] := by intro e; subst e; simp at hj
    obtain ⟨h3, _⟩ := he.imm a.block (key hne) (h2 hne)
    have := h1 j u hj
    unfold World.cell? at this ⊢
    rw [hblk] at this ⊢
    rw [h3]; exact this
  · intro hne
    exact (he.imm a.block (key hne) (h2 hne)).2

theorem St.OwnAt.ext {n : Nat} {S S' : St} {i off len sz cap : Nat} {a : Option Addr} (h : S.OwnAt i off len sz a cap) (he : Ext n S S') (hρ : S'.ρ i = S.ρ i) : S'.OwnAt i off len sz a cap := by
  unfold St.OwnAt at *
  rw [hρ]
  cases hb : S.ρ i with
  | none => rw [hb] at h; exact h
  | some b =>
    rw [hb] at h
    rcases h with h | ⟨h1, T, m, h2, h3⟩
    · exact .inl h
    · exact .inr ⟨h1, T, m, he.shape _ _ _ h2, h3⟩

theorem VR.extB {n : Nat} {S S' : St} (he : Ext n S S') : ∀ {s : SV} {v : Value}, VR S s v → (n = S.H.length ∨ s.under n = true) → VR S' s v := by
  intro s v h
  induction h with
  | any v => exact fun _ => .any v
  | val v => exact fun _ => .val v
  | gd b x v h0 h ih => exact fun hb => .gd b x v h0 fun e => ih e (by subst e; simpa [SV.under] using hb)
  | nilslc => exact fun _ => .nilslc
  | slc cells len a cap us hc hl hi h ih =>
    intro hb
    refine .slc cells len a cap us hc hl (hi.ext he) fun j s u h1 h2 => ih j s u h1 h2 (hb.imp id fun hb => ?_)
    simp only [SV.under] at hb
    exact (SV.underL_iff n cells).1 hb s (List.mem_of_getElem? h1)
  | own i off len sz ver a cap o ho hv hc hz h =>
    intro hb
    have hi : i < n := by
      rcases hb with hb | hb
      · rcases Nat.lt_or_ge i S.H.length with h1 | h1
        · omega
        · rw [List.getElem?_eq_none h1] at ho; cases ho
      · simpa [SV.under] using hb
    obtain ⟨o', ho', h1, h2⟩ := he.obj i o hi ho
    exact .own i off len sz ver a cap o' ho' (Nat.le_trans hv h1) hc hz fun e => (h (by omega)).ext he (h2 (by omega))
  | ptrI cells len k a us hl hi h ih =>
    intro hb
    refine .ptrI cells len k a us hl (hi.ext he) fun j s u h1 h2 => ih j s u h1 h2 (hb.imp id fun hb => ?_)
    simp only [SV.under] at hb
    exact (SV.underL_iff n cells).1 hb s (List.mem_of_getElem? h1)
  | ptrO i off len sz ver k a o ho hv h =>
    intro hb
    have hi : i < n := by
      rcases hb with hb | hb
      · rcases Nat.lt_or_ge i S.H.length with h1 | h1
        · omega
        · rw [List.getElem?_eq_none h1] at ho; cases ho
      · simpa [SV.under] using hb
    obtain ⟨o', ho', h1, h2⟩ := he.obj i o hi ho
    refine .ptrO i off len sz ver k a o' ho' (Nat.le_trans hv h1) fun e => ?_
    obtain ⟨b, hb1, hb2⟩ := h (by omega)
    exact ⟨b, (h2 (by omega)).trans hb1, hb2⟩
  | agg l us hl h ih =>
    intro hb
    refine .agg l us hl fun j s u h1 h2 => ih j s u h1 h2 (hb.imp id fun hb => ?_)
    simp only [SV.under] at hb
    exact (SV.underL_iff n l).1 hb s (List.mem_of_getElem? h1)
  | tup l us hl h ih =>
    intro hb
    refine .tup l us hl fun j s u h1 h2 => ih j s u h1 h2 (hb.imp id fun hb => ?_)
    simp only [SV.under] at hb
    exact (SV.underL_iff n l).1 hb s (List.mem_of_getElem? h1)
  | fn f x y us vs hl h hl' h' ih ih' =>
    intro hb
    refine .fn f x y us vs hl (fun j s u h1 h2 => ih j s u h1 h2 (hb.imp id fun hb => ?_)) hl' (fun j s u h1 h2 => ih' j s u h1 h2 (hb.imp id fun hb => ?_))
    · simp only [SV.under, Bool.and_eq_true] at hb
      exact (SV.underL_iff n x).1 hb.1 s (List.mem_of_getElem? h1)
    · simp only [SV.under, Bool.and_eq_true] at hb
      exact (SV.underL_iff n y).1 hb.2 s (List.mem_of_getElem? h1)
  | ifc t x v h ih => exact fun hb => .ifc t x v (ih (by simpa [SV.under] using hb))

theorem VR.ext {S S' : St} (he : Ext S.H.length S S') {s : SV} {v : Value} (h : VR S s v) : VR S' s v := h.extB he (.inl rfl)
theorem VRs.ext {S S' : St} (he : Ext S.H.length S S') {l : List SV} {us : List Value} (h : VRs S l us) : VRs S' l us :=
  ⟨h.1, fun j s u h1 h2 => (h.2 j s u h1 h2).ext he⟩
theorem VRs.extB {n : Nat} {S S' : St} (he : Ext n S S') {l : List SV} {us : List Value} (h : VRs S l us) (hb : SV.underL n l = true) : VRs S' l us :=
  ⟨h.1, fun j s u h1 h2 => (h.2 j s u h1 h2).extB he (.inr ((SV.underL_iff n l).1 hb s (List.mem_of_getElem? h1)))⟩

theorem VRs.under {S : St} {l : List SV} {us : List Value} (hl : us.length = l.length) (h : ∀ (j : Nat) (s : SV) (u : Value), l[j]? = some s → us[j]? = some u → s.under S.H.length = true) : SV.underL S.H.length l = true := by
  refine (SV.underL_iff _ _).2 fun s hs => ?_
  obtain ⟨j, hj⟩ := List.getElem?_of_mem hs
  have hlt : j < us.length := by
    rw [hl]
    rcases Nat.lt_or_ge j l.length with h1 | h1
    · exact h1
    · rw [List.getElem?_eq_none h1] at hj; cases hj
  exact h j s _ hj (List.getElem?_eq_getElem hlt)
/-- What is related names no object that is not there. -/
theorem VR.under {S : St} {s : SV} {v : Value} (h : VR S s v) : s.under S.H.length = true := by
  have lt : ∀ {i : Nat} {o : AO}, S.H[i]? = some o → i < S.H.length := by
    intro i o ho
    rcases Nat.lt_or_ge i S.H.length with h1 | h1
    · exact h1
    · rw [List.getElem?_eq_none h1] at ho; cases ho
  induction h with
  | any v => rfl
  | val v => rfl
  | gd b x v h0 h ih => cases b <;> simp_all [SV.under]
  | nilslc => simp [SV.under, SV.underL]
  | slc cells len a cap us hc hl hi h ih => simpa only [SV.under] using VRs.under hl ih
  | own i off len sz ver a cap o ho hv hc hz h => simpa [SV.under] using lt ho
  | ptrI cells len k a us hl hi h ih => simpa only [SV.under] using VRs.under hl ih
  | ptrO i off len sz ver k a o ho hv h => simpa [SV.under] using lt ho
  | agg l us hl h ih => simpa only [SV.under] using VRs.under hl ih
  | tup l us hl h ih => simpa only [SV.under] using VRs.under hl ih
  | fn f x y us vs hl h hl' h' ih ih' => simp only [SV.under, Bool.and_eq_true]; exact ⟨VRs.under hl ih, VRs.under hl' ih'⟩
  | ifc t x v h ih => simpa only [SV.under] using ih

theorem VR.oneCell {S : St} {s : SV} {v : Value} (h : VR S s v) (hc : s.isCell = true) : v.oneCell' = true := by
  cases h <;> simp_all [SV.isCell, Value.oneCell']

structure Sim (S : St) : Prop where
  live : ∀ (i : Nat) (o : AO), S.H[i]? = some o → o.live = true →
    match S.ρ i with
    | none => o.cells = []
    | some b => ∃ us rest, S.w.heap[b]? = some (.cells (us ++ rest).toArray o.ty (0, 0)) ∧ VRs S o.cells us
  bel : ∀ (i : Nat) (o : AO), S.H[i]? = some o → ∀ s ∈ o.cells, s.under S.H.length = true ∧ s.isCell = true
  inj : ∀ (i j : Nat) (o o' : AO) (b : Nat), S.H[i]? = some o → S.H[j]? = some o' → o.live = true → o'.live = true → S.ρ i = some b → S.ρ j = some b → i = j

theorem Sim.lt {S : St} (h : Sim S) {k : Nat} (hk : S.rw k) : k < S.w.heap.size := by
  obtain ⟨i, o, ho, hl, hρ⟩ := hk
  have := h.live i o ho hl
  rw [hρ] at this
  obtain ⟨us, rest, hh, _⟩ := this
  rcases Nat.lt_or_ge k S.w.heap.size with h1 | h1
  · exact h1
  · rw [Array.getElem?_eq_none h1] at hh; cases hh

end Go.Ab
