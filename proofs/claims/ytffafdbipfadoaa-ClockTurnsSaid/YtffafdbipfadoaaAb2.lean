/-
  What a new block, a store, a row that moves and a row that is given up do to the relation.
-/
import Derived.Test.YtffafdbipfadoaaAb1
set_option linter.all false
namespace Go.Ab

theorem getElem?_lt {α : Type} {l : List α} {i : Nat} {x : α} (h : l[i]? = some x) : i < l.length := by
  rcases Nat.lt_or_ge i l.length with h1 | h1
  · exact h1
  · rw [List.getElem?_eq_none h1] at h; cases h

/-- What holds of the objects behind a step, one by one. -/
theorem Sim.step {S S' : St} (h : Sim S) (he : Ext S.H.length S S') (hlen : S.H.length ≤ S'.H.length)
    (hobj : ∀ (i : Nat) (o : AO), S'.H[i]? = some o →
      (S.H[i]? = some o ∧ S'.ρ i = S.ρ i ∧ ∀ b, S.ρ i = some b → o.live = true → S'.w.heap[b]? = S.w.heap[b]?) ∨
      ((o.live = true → match S'.ρ i with
        | none => o.cells = []
        | some b => ∃ us rest, S'.w.heap[b]? = some (.cells (us ++ rest).toArray o.ty (0, 0)) ∧ VRs S' o.cells us) ∧
       ∀ s ∈ o.cells, s.under S'.H.length = true ∧ s.isCell = true))
    (hinj : ∀ (i j : Nat) (o o' : AO) (b : Nat), S'.H[i]? = some o → S'.H[j]? = some o' → o.live = true → o'.live = true → S'.ρ i = some b → S'.ρ j = some b → i = j) : Sim S' where
  live := by
    intro i o ho hl
    rcases hobj i o ho with ⟨h1, h2, h3⟩ | ⟨h1, _⟩
    · have h4 := h.live i o h1 hl
      rw [h2]
      cases hρ : S.ρ i with
      | none => rw [hρ] at h4; exact h4
      | some b =>
        rw [hρ] at h4
        obtain ⟨us, rest, h5, h6⟩ := h4
        exact ⟨us, rest, (h3 b hρ hl).trans h5, h6.ext he⟩
    · exact h1 hl
  bel := by
    intro i o ho s hs
    rcases hobj i o ho with ⟨h1, _, _⟩ | ⟨_, h1⟩
    · obtain ⟨h2, h3⟩ := h.bel i o h1 s hs
      exact ⟨SV.under_mono hlen s h2, h3⟩
    · exact h1 s hs
  inj := hinj

def upd (ρ : Nat → Option Nat) (i : Nat) (b : Option Nat) : Nat → Option Nat := fun j => if j = i then b else ρ j
theorem upd_same (ρ : Nat → Option Nat) (i : Nat) (b : Option Nat) : upd ρ i b i = b := by simp [upd]
theorem upd_ne (ρ : Nat → Option Nat) {i j : Nat} (b : Option Nat) (h : j ≠ i) : upd ρ i b j = ρ j := by simp [upd, h]

theorem heap_alloc_lt (w : World) (o : Obj) {k : Nat} (h : k < w.heap.size) : (w.alloc o).heap[k]? = w.heap[k]? := by
  show (w.heap.push o)[k]? = _
  rw [Array.getElem?_push, if_neg (by omega)]
theorem heap_alloc_at (w : World) (o : Obj) : (w.alloc o).heap[w.heap.size]? = some o := by
  show (w.heap.push o)[w.heap.size]? = _
  rw [Array.getElem?_push, if_pos rfl]
theorem shape_alloc (w : World) (o : Obj) {k : Nat} {T m : Nat} (h : w.shape? k = some (T, m)) : (w.alloc o).shape? k = some (T, m) := by
  have hk : k < w.heap.size := by
    rcases Nat.lt_or_ge k w.heap.size with h1 | h1
    · exact h1
    · unfold World.shape? at h; rw [Array.getElem?_eq_none h1] at h; cases h
  unfold World.shape? at *
  rw [heap_alloc_lt w o hk]; exact h

/-- A new row. -/
def St.new (S : St) (cells : List SV) (T : TypeId) (ver : Nat) (us rest : List Value) : St :=
  ⟨upd S.ρ S.H.length (some S.w.heap.size), S.H ++ [⟨cells, T, ver, true⟩], S.w.alloc (.cells (us ++ rest).toArray T)⟩

theorem ext_new (S : St) (h : Sim S) (cells : List SV) (T : TypeId) (ver : Nat) (us rest : List Value) : Ext S.H.length S (S.new cells T ver us rest) where
  obj := by
    intro i o hi ho
    refine ⟨o, ?_, Nat.le_refl _, fun _ => ?_⟩
    · show (S.H ++ _)[i]? = _
      rw [List.getElem?_append_left hi]; exact ho
    · exact upd_ne _ _ (by omega)
  imm := by
    intro k hk hn
    refine ⟨heap_alloc_lt _ _ hk, ?_⟩
    rintro ⟨i, o, ho, hl, hρ⟩
    simp only [St.new] at ho hρ
    by_cases hi : i = S.H.length
    · subst hi; rw [upd_same] at hρ; simp at hρ; omega
    · rw [upd_ne _ _ hi] at hρ
      have hi' : i < S.H.length := by have := getElem?_lt ho; simp at this; omega
      rw [List.getElem?_append_left hi'] at ho
      exact hn ⟨i, o, ho, hl, hρ⟩
  size := by simp [St.new]
  shape := fun k T' m hs => shape_alloc _ _ hs
  os := rfl
  tape := rfl
  output := rfl

theorem sim_new {S : St} (h : Sim S) {cells : List SV} (T : TypeId) (ver : Nat) {us : List Value} (rest : List Value) (hv : VRs S cells us)
    (hb : ∀ s ∈ cells, s.under S.H.length = true ∧ s.isCell = true) : Sim (S.new cells T ver us rest) := by
  have he := ext_new S h cells T ver us rest
  refine h.step he (by simp [St.new]) ?_ ?_
  · intro i o ho
    by_cases hi : i = S.H.length
    · subst hi
      have : o = ⟨cells, T, ver, true⟩ := by simpa [St.new] using ho.symm
      subst this
      refine .inr ⟨fun _ => ?_, fun s hs => ?_⟩
      · simp only [St.new, upd_same]
        exact ⟨us, rest, heap_alloc_at _ _, hv.ext he⟩
      · obtain ⟨h1, h2⟩ := hb s hs
        exact ⟨SV.under_mono (by simp [St.new]) s h1, h2⟩
    · have hi' : i < S.H.length := by have := getElem?_lt ho; simp [St.new] at this; omega
      refine .inl ⟨?_, upd_ne _ _ hi, fun b hb hl => ?_⟩
      · simp only [St.new] at ho; rw [List.getElem?_append_left hi'] at ho; exact ho
      · have ho' : S.H[i]? = some o := by simp only [St.new] at ho; rw [List.getElem?_append_left hi'] at ho; exact ho
        exact heap_alloc_lt _ _ (h.lt ⟨i, o, ho', hl, hb⟩)
  · intro i j o o' b hi hj hl hl' hρ hρ'
    have key : ∀ (i : Nat) (o : AO), (S.new cells T ver us rest).H[i]? = some o → o.live = true → (S.new cells T ver us rest).ρ i = some b →
        (i = S.H.length ∧ b = S.w.heap.size) ∨ (S.H[i]? = some o ∧ S.ρ i = some b ∧ b < S.w.heap.size) := by
      intro i o ho hl hρ
      by_cases hi : i = S.H.length
      · subst hi; simp only [St.new, upd_same] at hρ; simp at hρ; exact .inl ⟨rfl, hρ.symm⟩
      · have hi' : i < S.H.length := by have := getElem?_lt ho; simp [St.new] at this; omega
        simp only [St.new] at ho hρ
        rw [List.getElem?_append_left hi'] at ho
        rw [upd_ne _ _ hi] at hρ
        exact .inr ⟨ho, hρ, h.lt ⟨i, o, ho, hl, hρ⟩⟩
    rcases key i o hi hl hρ with ⟨h1, h2⟩ | ⟨h1, h2, h3⟩ <;> rcases key j o' hj hl' hρ' with ⟨h4, h5⟩ | ⟨h4, h5, h6⟩
    · omega
    · omega
    · omega
    · exact h.inj i j o o' b h1 h4 hl hl' h2 h5

/-- An empty row that lies nowhere yet: a nil slice that is going to grow. -/
def St.newNil (S : St) (T : TypeId) : St := ⟨upd S.ρ S.H.length none, S.H ++ [⟨[], T, 0, true⟩], S.w⟩

theorem ext_newNil (S : St) (T : TypeId) : Ext S.H.length S (S.newNil T) where
  obj := by
    intro i o hi ho
    refine ⟨o, ?_, Nat.le_refl _, fun _ => upd_ne _ _ (by omega)⟩
    show (S.H ++ _)[i]? = _
    rw [List.getElem?_append_left hi]; exact ho
  imm := by
    intro k hk hn
    refine ⟨rfl, ?_⟩
    rintro ⟨i, o, ho, hl, hρ⟩
    simp only [St.newNil] at ho hρ
    by_cases hi : i = S.H.length
    · subst hi; rw [upd_same] at hρ; cases hρ
    · rw [upd_ne _ _ hi] at hρ
      have hi' : i < S.H.length := by have := getElem?_lt ho; simp at this; omega
      rw [List.getElem?_append_left hi'] at ho
      exact hn ⟨i, o, ho, hl, hρ⟩
  size := Nat.le_refl _
  shape := fun _ _ _ h => h
  os := rfl
  tape := rfl
  output := rfl

theorem sim_newNil {S : St} (h : Sim S) (T : TypeId) : Sim (S.newNil T) := by
  refine h.step (ext_newNil S T) (by simp [St.newNil]) ?_ ?_
  · intro i o ho
    by_cases hi : i = S.H.length
    · subst hi
      have : o = ⟨[], T, 0, true⟩ := by simpa [St.newNil] using ho.symm
      subst this
      refine .inr ⟨fun _ => ?_, fun s hs => by simp at hs⟩
      simp only [St.newNil, upd_same]
    · have hi' : i < S.H.length := by have := getElem?_lt ho; simp [St.newNil] at this; omega
      refine .inl ⟨?_, upd_ne _ _ hi, fun b hb hl => rfl⟩
      simp only [St.newNil] at ho; rw [List.getElem?_append_left hi'] at ho; exact ho
  · intro i j o o' b hi hj hl hl' hρ hρ'
    have key : ∀ (i : Nat) (o : AO), (S.newNil T).H[i]? = some o → (S.newNil T).ρ i = some b → S.H[i]? = some o ∧ S.ρ i = some b := by
      intro i o ho hρ
      by_cases hi : i = S.H.length
      · subst hi; simp only [St.newNil, upd_same] at hρ; cases hρ
      · have hi' : i < S.H.length := by have := getElem?_lt ho; simp [St.newNil] at this; omega
        simp only [St.newNil] at ho hρ
        rw [List.getElem?_append_left hi'] at ho
        rw [upd_ne _ _ hi] at hρ
        exact ⟨ho, hρ⟩
    obtain ⟨h1, h2⟩ := key i o hi hρ
    obtain ⟨h3, h4⟩ := key j o' hj hρ'
    exact h.inj i j o o' b h1 h3 hl hl' h2 h4

/-- Object i is replaced, its row where it was. -/
theorem ext_put {S : St} {i : Nat} {o o' : AO} {b : Nat} {x : Obj} (ho : S.H[i]? = some o) (hv : o.ver ≤ o'.ver) (hl : o.live = true) (hρ : S.ρ i = some b)
    {w' : World} (hw : w' = { S.w with heap := S.w.heap.setIfInBounds b x }) {c c' : Array Value} {T : TypeId} {f f' : Nat × Nat} (hb : S.w.heap[b]? = some (.cells c T f))
    (hx : x = .cells c' T f') (hs : c'.size = c.size) : Ext S.H.length S ⟨S.ρ, S.H.set i o', w'⟩ where
  obj := by
    intro j p hj hp
    by_cases hij : j = i
    · subst hij
      rw [ho] at hp; cases hp
      refine ⟨o', ?_, hv, fun _ => rfl⟩
      show (S.H.set j o')[j]? = _
      rw [List.getElem?_set_self hj]
    · refine ⟨p, ?_, Nat.le_refl _, fun _ => rfl⟩
      show (S.H.set i o')[j]? = _
      rw [List.getElem?_set_ne (by omega)]; exact hp
  imm := by
    intro k hk hn
    have hkb : k ≠ b := fun e => hn ⟨i, o, ho, hl, e ▸ hρ⟩
    subst hw
    refine ⟨by simp [Array.getElem?_setIfInBounds]; intro e; omega, ?_⟩
    rintro ⟨j, p, hp, hpl, hpρ⟩
    simp only at hp hpρ
    by_cases hij : j = i
    · subst hij; rw [hρ] at hpρ; cases hpρ; exact hkb rfl
    · rw [List.getElem?_set_ne (by omega)] at hp
      exact hn ⟨j, p, hp, hpl, hpρ⟩
  size := by subst hw; simp
  shape := by
    intro k T' m hs'
    subst hw
    unfold World.shape? at *
    simp only [Array.getElem?_setIfInBounds]
    by_cases hkb : b = k
    · subst hkb
      have hlt : b < S.w.heap.size := by
        rcases Nat.lt_or_ge b S.w.heap.size with h1 | h1
        · exact h1
        · rw [Array.getElem?_eq_none h1] at hb; cases hb
      rw [hb] at hs'
      simp only [hlt, if_true, hx]
      simp only [hs]; exact hs'
    · simp only [hkb, if_false]; exact hs'
  os := by subst hw; rfl
  tape := by subst hw; rfl
  output := by subst hw; rfl

theorem sim_put {S : St} (h : Sim S) {i : Nat} {o : AO} {b : Nat} (ho : S.H[i]? = some o) (hl : o.live = true) (hρ : S.ρ i = some b)
    {cells : List SV} {ver : Nat} (hv : o.ver ≤ ver) {us rest : List Value} {c : Array Value} (hb : S.w.heap[b]? = some (.cells c o.ty (0, 0))) (hs : (us ++ rest).length = c.size)
    (hvr : VRs S cells us) (hu : ∀ s ∈ cells, s.under S.H.length = true ∧ s.isCell = true)
    {w' : World} (hw : w' = { S.w with heap := S.w.heap.setIfInBounds b (.cells (us ++ rest).toArray o.ty (0, 0)) }) :
    Sim ⟨S.ρ, S.H.set i ⟨cells, o.ty, ver, true⟩, w'⟩ ∧ Ext S.H.length S ⟨S.ρ, S.H.set i ⟨cells, o.ty, ver, true⟩, w'⟩ := by
  have he : Ext S.H.length S ⟨S.ρ, S.H.set i ⟨cells, o.ty, ver, true⟩, w'⟩ :=
    ext_put (o' := ⟨cells, o.ty, ver, true⟩) ho hv hl hρ hw hb rfl (by simpa using hs)
  have hblt : b < S.w.heap.size := h.lt ⟨i, o, ho, hl, hρ⟩
  refine ⟨h.step he (by simp) ?_ ?_, he⟩
  · intro j p hp
    by_cases hij : j = i
    · subst hij
      have : p = ⟨cells, o.ty, ver, true⟩ := by
        simp only at hp; rw [List.getElem?_set_self (getElem?_lt ho)] at hp; cases hp; rfl
      subst this
      refine .inr ⟨fun _ => ?_, fun s hs => ?_⟩
      · simp only [hρ]
        refine ⟨us, rest, ?_, hvr.ext he⟩
        subst hw
        simp [Array.getElem?_setIfInBounds, hblt]
      · simpa using hu s hs
    · have hp' : S.H[j]? = some p := by simp only at hp; rw [List.getElem?_set_ne (by omega)] at hp; exact hp
      refine .inl ⟨hp', rfl, fun b' hb' hl' => ?_⟩
      have hne : b' ≠ b := by
        intro e; subst e
        exact hij (h.inj j i p o b' hp' ho hl' hl hb' hρ)
      subst hw
      simp [Array.getElem?_setIfInBounds]; intro e; omega
  · intro j k p q b' hj hk hjl hkl hρj hρk
    have key : ∀ (j : Nat) (p : AO), (S.H.set i ⟨cells, o.ty, ver, true⟩)[j]? = some p → p.live = true → S.ρ j = some b' → ∃ p', S.H[j]? = some p' ∧ p'.live = true := by
      intro j p hp hpl _
      by_cases hij : j = i
      · subst hij; exact ⟨o, ho, hl⟩
      · rw [List.getElem?_set_ne (by omega)] at hp; exact ⟨p, hp, hpl⟩
    obtain ⟨p', h1, h2⟩ := key j p hj hjl hρj
    obtain ⟨q', h3, h4⟩ := key k q hk hkl hρk
    exact h.inj j k p' q' b' h1 h3 h2 h4 hρj hρk

/-- Object i is replaced, its row in a new block. -/
def St.move (S : St) (i : Nat) (o' : AO) (us rest : List Value) : St :=
  ⟨upd S.ρ i (some S.w.heap.size), S.H.set i o', S.w.alloc (.cells (us ++ rest).toArray o'.ty)⟩

theorem ext_move {S : St} {i : Nat} {o o' : AO} {us rest : List Value} (ho : S.H[i]? = some o) (hv : o.ver < o'.ver) : Ext S.H.length S (S.move i o' us rest) where
  obj := by
    intro j p hj hp
    by_cases hij : j = i
    · subst hij
      rw [ho] at hp; cases hp
      refine ⟨o', ?_, Nat.le_of_lt hv, fun e => by omega⟩
      show (S.H.set j o')[j]? = _
      rw [List.getElem?_set_self hj]
    · refine ⟨p, ?_, Nat.le_refl _, fun _ => upd_ne _ _ hij⟩
      show (S.H.set i o')[j]? = _
      rw [List.getElem?_set_ne (by omega)]; exact hp
  imm := by
    intro k hk hn
    refine ⟨heap_alloc_lt _ _ hk, ?_⟩
    rintro ⟨j, p, hp, hpl, hpρ⟩
    simp only [St.move] at hp hpρ
    by_cases hij : j = i
    · subst hij; rw [upd_same] at hpρ; simp at hpρ; omega
    · rw [List.getElem?_set_ne (by omega)] at hp
      rw [upd_ne _ _ hij] at hpρ
      exact hn ⟨j, p, hp, hpl, hpρ⟩
  size := by simp [St.move]
  shape := fun k T' m hs => shape_alloc _ _ hs
  os := rfl
  tape := rfl
  output := rfl

theorem sim_move {S : St} (h : Sim S) {i : Nat} {o o' : AO} {us : List Value} (rest : List Value) (ho : S.H[i]? = some o) (hv : o.ver < o'.ver)
    (hvr : VRs S o'.cells us) (hu : ∀ s ∈ o'.cells, s.under S.H.length = true ∧ s.isCell = true) : Sim (S.move i o' us rest) := by
  have he : Ext S.H.length S (S.move i o' us rest) := ext_move ho hv
  refine h.step he (by simp [St.move]) ?_ ?_
  · intro j p hp
    by_cases hij : j = i
    · subst hij
      have : p = o' := by
        simp only [St.move] at hp; rw [List.getElem?_set_self (getElem?_lt ho)] at hp; cases hp; rfl
      subst this
      refine .inr ⟨fun _ => ?_, fun s hs => ?_⟩
      · simp only [St.move, upd_same]
        exact ⟨us, rest, heap_alloc_at _ _, hvr.ext he⟩
      · simpa [St.move] using hu s hs
    · have hp' : S.H[j]? = some p := by simp only [St.move] at hp; rw [List.getElem?_set_ne (by omega)] at hp; exact hp
      refine .inl ⟨hp', upd_ne _ _ hij, fun b' hb' hl' => heap_alloc_lt _ _ (h.lt ⟨j, p, hp', hl', hb'⟩)⟩
  · intro j k p q b' hj hk hjl hkl hρj hρk
    have key : ∀ (j : Nat) (p : AO), (S.move i o' us rest).H[j]? = some p → p.live = true → (S.move i o' us rest).ρ j = some b' →
        (j = i ∧ b' = S.w.heap.size) ∨ (S.H[j]? = some p ∧ S.ρ j = some b' ∧ b' < S.w.heap.size) := by
      intro j p hp hpl hρj
      simp only [St.move] at hp hρj
      by_cases hij : j = i
      · subst hij; rw [upd_same] at hρj; simp at hρj; exact .inl ⟨rfl, hρj.symm⟩
      · rw [List.getElem?_set_ne (by omega)] at hp
        rw [upd_ne _ _ hij] at hρj
        exact .inr ⟨hp, hρj, h.lt ⟨j, p, hp, hpl, hρj⟩⟩
    rcases key j p hj hjl hρj with ⟨h1, h2⟩ | ⟨h1, h2, h3⟩ <;> rcases key k q hk hkl hρk with ⟨h4, h5⟩ | ⟨h4, h5, h6⟩
    · omega
    · omega
    · omega
    · exact h.inj j k p q b' h1 h4 hjl hkl h2 h5

/-- Object i is given up: nobody writes it from here on. -/
def AO.dead (o : AO) : AO := ⟨[], o.ty, o.ver + 1, false⟩
theorem ext_kill {S : St} {i : Nat} {o : AO} (ho : S.H[i]? = some o) : Ext S.H.length S ⟨S.ρ, S.H.set i o.dead, S.w⟩ where
  obj := by
    intro j p hj hp
    by_cases hij : j = i
    · subst hij
      rw [ho] at hp; cases hp
      refine ⟨o.dead, ?_, by simp [AO.dead], fun _ => rfl⟩
      show (S.H.set j o.dead)[j]? = _
      rw [List.getElem?_set_self hj]
    · refine ⟨p, ?_, Nat.le_refl _, fun _ => rfl⟩
      show (S.H.set i o.dead)[j]? = _
      rw [List.getElem?_set_ne (by omega)]; exact hp
  imm := by
    intro k hk hn
    refine ⟨rfl, ?_⟩
    rintro ⟨j, p, hp, hpl, hpρ⟩
    simp only at hp hpρ
    by_cases hij : j = i
    · subst hij; rw [List.getElem?_set_self (getElem?_lt ho)] at hp; cases hp; simp [AO.dead] at hpl
    · rw [List.getElem?_set_ne (by omega)] at hp
      exact hn ⟨j, p, hp, hpl, hpρ⟩
  size := Nat.le_refl _
  shape := fun _ _ _ h => h
  os := rfl
  tape := rfl
  output := rfl
theorem sim_kill {S : St} (h : Sim S) {i : Nat} {o : AO} (ho : S.H[i]? = some o) : Sim ⟨S.ρ, S.H.set i o.dead, S.w⟩ := by
  refine h.step (ext_kill ho) (by simp) ?_ ?_
  · intro j p hp
    by_cases hij : j = i
    · subst hij
      have : p = o.dead := by simp only at hp; rw [List.getElem?_set_self (getElem?_lt ho)] at hp; cases hp; rfl
      subst this
      exact .inr ⟨fun hl => by simp [AO.dead] at hl, fun s hs => by simp [AO.dead] at hs⟩
    · have hp' : S.H[j]? = some p := by simp only at hp; rw [List.getElem?_set_ne (by omega)] at hp; exact hp
      exact .inl ⟨hp', rfl, fun _ _ _ => rfl⟩
  · intro j k p q b' hj hk hjl hkl hρj hρk
    have key : ∀ (j : Nat) (p : AO), (S.H.set i o.dead)[j]? = some p → p.live = true → S.H[j]? = some p := by
      intro j p hp hpl
      by_cases hij : j = i
      · subst hij; rw [List.getElem?_set_self (getElem?_lt ho)] at hp; cases hp; simp [AO.dead] at hpl
      · rw [List.getElem?_set_ne (by omega)] at hp; exact hp
    exact h.inj j k p q b' (key j p hj hjl) (key k q hk hkl) hjl hkl hρj hρk

/-- A world whose memory is the same. -/
theorem ext_same {S : St} {w' : World} (hh : w'.heap = S.w.heap) (ho : w'.os = S.w.os) (ht : w'.tape = S.w.tape) (hp : w'.output = S.w.output) : Ext S.H.length S ⟨S.ρ, S.H, w'⟩ where
  obj := fun i o _ h => ⟨o, h, Nat.le_refl _, fun _ => rfl⟩
  imm := fun k _ hn => ⟨by rw [hh], hn⟩
  size := by rw [hh]; exact Nat.le_refl _
  shape := fun k T m h => by unfold World.shape? at *; rw [hh]; exact h
  os := ho
  tape := ht
  output := hp
theorem sim_same {S : St} (h : Sim S) {w' : World} (hh : w'.heap = S.w.heap) (ho : w'.os = S.w.os) (ht : w'.tape = S.w.tape) (hp : w'.output = S.w.output) : Sim ⟨S.ρ, S.H, w'⟩ :=
  h.step (ext_same hh ho ht hp) (Nat.le_refl _) (fun i o hi => .inl ⟨hi, rfl, fun b _ _ => by rw [hh]⟩) fun i j o o' b hi hj hl hl' h1 h2 => h.inj i j o o' b hi hj hl hl' h1 h2

/-- The objects behind the first n are forgotten. -/
theorem ext_drop {S : St} {n : Nat} (hn : n ≤ S.H.length) : Ext n S ⟨S.ρ, S.H.take n, S.w⟩ where
  obj := fun i o hi h => ⟨o, by show (S.H.take n)[i]? = _; rw [List.getElem?_take_of_lt hi]; exact h, Nat.le_refl _, fun _ => rfl⟩
  imm := by
    intro k hk hnr
    refine ⟨rfl, ?_⟩
    rintro ⟨j, p, hp, hpl, hpρ⟩
    simp only [List.getElem?_take] at hp
    by_cases hj : j < n
    · rw [if_pos hj] at hp; exact hnr ⟨j, p, hp, hpl, hpρ⟩
    · rw [if_neg hj] at hp; cases hp
  size := Nat.le_refl _
  shape := fun _ _ _ h => h
  os := rfl
  tape := rfl
  output := rfl
theorem sim_drop {S : St} (h : Sim S) {n : Nat} (hn : n ≤ S.H.length) (hc : ∀ (i : Nat) (o : AO), i < n → S.H[i]? = some o → ∀ s ∈ o.cells, s.under n = true) :
    Sim ⟨S.ρ, S.H.take n, S.w⟩ := by
  have key : ∀ (j : Nat) (p : AO), (S.H.take n)[j]? = some p → j < n ∧ S.H[j]? = some p := by
    intro j p hp
    rw [List.getElem?_take] at hp
    by_cases hj : j < n
    · rw [if_pos hj] at hp; exact ⟨hj, hp⟩
    · rw [if_neg hj] at hp; cases hp
  constructor
  · intro i o ho hl
    obtain ⟨h1, h2⟩ := key i o ho
    have h3 := h.live i o h2 hl
    simp only
    cases hρ : S.ρ i with
    | none => rw [hρ] at h3; exact h3
    | some b =>
      rw [hρ] at h3
      obtain ⟨us, rest, h4, h5⟩ := h3
      exact ⟨us, rest, h4, h5.extB (ext_drop hn) ((SV.underL_iff n _).2 (hc i o h1 h2))⟩
  · intro i o ho s hs
    obtain ⟨h1, h2⟩ := key i o ho
    have : (S.H.take n).length = n := by simp; omega
    simp only [this]
    exact ⟨hc i o h1 h2 s hs, (h.bel i o h2 s hs).2⟩
  · intro i j o o' b hi hj hl hl' hρ hρ'
    exact h.inj i j o o' b (key i o hi).2 (key j o' hj).2 hl hl' hρ hρ'

end Go.Ab
