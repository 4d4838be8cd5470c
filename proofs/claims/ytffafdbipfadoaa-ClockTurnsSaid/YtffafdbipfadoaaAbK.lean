/-
  What a function leaves, once more: some of its own objects kept (under new numbers), the others forgotten or given up with what its result holds of them.
-/
import Derived.Test.YtffafdbipfadoaaAbJ
set_option linter.all false
namespace Go.Ab

/-- The place of an element. -/
def placeOf (ks : List Nat) (k : Nat) : Option Nat :=
  match ks with
  | [] => none
  | x :: r => if x = k then some 0 else (placeOf r k).map (· + 1)
theorem placeOf_some {ks : List Nat} {k p : Nat} (h : placeOf ks k = some p) : ks[p]? = some k := by
  induction ks generalizing p with
  | nil => simp [placeOf] at h
  | cons x r ih =>
    unfold placeOf at h
    split at h
    · rename_i hx; cases h; simp [hx]
    · cases hr : placeOf r k with
      | none => rw [hr] at h; cases h
      | some q => rw [hr] at h; cases h; simpa using ih hr
theorem placeOf_none {ks : List Nat} {k p : Nat} (h : placeOf ks k = none) : ks[p]? ≠ some k := by
  induction ks generalizing p with
  | nil => simp
  | cons x r ih =>
    unfold placeOf at h
    split at h
    · cases h
    · rename_i hx
      cases hr : placeOf r k with
      | none => cases p with
        | zero => simpa using hx
        | succ p => simpa using ih hr
      | some q => rw [hr] at h; cases h

/-- A value with the objects of 'ks' under new numbers, the other ones from n on written out. -/
def SV.fz (n : Nat) (ks : List Nat) (L : List AO) : Nat → SV → SV
  | 0, _ => .any
  | d + 1, s =>
    if s.under n = true then s else
    match s with
    | .any => .any
    | .val v => .val v
    | .gd _ _ => .any
    | .slc cells len => .slc (cells.map (SV.fz n ks L d)) len
    | .own i off len sz ver =>
      match L[i - n]? with
      | some o =>
        match placeOf ks (i - n) with
        | some p => if o.ver = ver then .own (n + p) off len sz 0 else .any
        | none => if o.live = true ∧ o.ver = ver ∧ off + len * sz ≤ o.cells.length then .slc (((o.cells.drop off).take (len * sz)).map (SV.fz n ks L d)) len else .any
      | none => .any
    | .ptr (.own i off len sz ver) k =>
      match L[i - n]? with
      | some o =>
        match placeOf ks (i - n) with
        | some p => if o.ver = ver then .ptr (.own (n + p) off len sz 0) k else .any
        | none => if o.live = true ∧ o.ver = ver ∧ off < o.cells.length then .ptr (.slc ((o.cells.drop off).map (SV.fz n ks L d)) 0) k else .any
      | none => .any
    | .ptr (.slc cells len) k => .ptr (.slc (cells.map (SV.fz n ks L d)) len) k
    | .ptr _ _ => .any
    | .agg l => .agg (l.map (SV.fz n ks L d))
    | .tup l => .tup (l.map (SV.fz n ks L d))
    | .fn f x y => .fn f (x.map (SV.fz n ks L d)) (y.map (SV.fz n ks L d))
    | .ifc t x => .ifc t (SV.fz n ks L d x)

/-- The objects kept. -/
def keptO (n : Nat) (ks : List Nat) (L : List AO) (d : Nat) : List AO :=
  ks.map fun k => match L[k]? with
    | some o => { cells := o.cells.map (SV.fz n ks L d), ty := o.ty, ver := 0, live := true }
    | none => { cells := [], ty := 0, ver := 0, live := false }

def keptOk (n : Nat) (ks : List Nat) (L : List AO) (d : Nat) : List Nat → Prop
  | [] => True
  | k :: r => (match L[k]? with
    | some o => o.live = true ∧ cellsOk (o.cells.map (SV.fz n ks L d))
    | none => False) ∧ k ∉ r ∧ keptOk n ks L d r

section
variable {S : St} {H0 L : List AO} {ks : List Nat} {d0 : Nat}

def keptρ (S : St) (n : Nat) (ks : List Nat) : Nat → Option Nat := fun i => if i < n then S.ρ i else match ks[i - n]? with
  | some k => S.ρ (n + k)
  | none => none
def keptS (S : St) (H0 L : List AO) (ks : List Nat) (d : Nat) : St := ⟨keptρ S H0.length ks, H0 ++ keptO H0.length ks L d, S.w⟩

theorem keptOk_mem {n d : Nat} : ∀ {l : List Nat}, keptOk n ks L d l → ∀ {p k : Nat}, l[p]? = some k → ∃ o, L[k]? = some o ∧ o.live = true ∧ cellsOk (o.cells.map (SV.fz n ks L d))
  | [], _, p, k, h => by simp at h
  | x :: r, h, p, k, hp => by
    cases p with
    | zero =>
      simp at hp; subst hp
      have := h.1
      cases hx : L[x]? with
      | none => rw [hx] at this; exact this.elim
      | some o => rw [hx] at this; exact ⟨o, rfl, this⟩
    | succ p => simp at hp; exact keptOk_mem h.2.2 hp
theorem keptOk_inj {n d : Nat} : ∀ {l : List Nat}, keptOk n ks L d l → ∀ {p q k : Nat}, l[p]? = some k → l[q]? = some k → p = q
  | [], _, p, q, k, h, _ => by simp at h
  | x :: r, h, p, q, k, hp, hq => by
    cases p with
    | zero =>
      cases q with
      | zero => rfl
      | succ q => simp at hp hq; subst hp; exact absurd (List.mem_of_getElem? hq) h.2.1
    | succ p =>
      cases q with
      | zero => simp at hp hq; subst hq; exact absurd (List.mem_of_getElem? hp) h.2.1
      | succ q => simp at hp hq; rw [keptOk_inj h.2.2 hp hq]

/-- What lies in the kept state at a place. -/
theorem keptS_at (hk : keptOk H0.length ks L d0 ks) {i : Nat} {o : AO} (h : (keptS S H0 L ks d0).H[i]? = some o) :
    (i < H0.length ∧ H0[i]? = some o ∧ keptρ S H0.length ks i = S.ρ i) ∨
    (∃ p k o', i = H0.length + p ∧ ks[p]? = some k ∧ L[k]? = some o' ∧ o'.live = true ∧ cellsOk o.cells ∧
      o = { cells := o'.cells.map (SV.fz H0.length ks L d0), ty := o'.ty, ver := 0, live := true } ∧ keptρ S H0.length ks i = S.ρ (H0.length + k)) := by
  simp only [keptS] at h
  by_cases hi : i < H0.length
  · rw [List.getElem?_append_left hi] at h
    exact .inl ⟨hi, h, by simp [keptρ, hi]⟩
  · rw [List.getElem?_append_right (by omega)] at h
    unfold keptO at h
    rw [List.getElem?_map] at h
    cases hp : ks[i - H0.length]? with
    | none => rw [hp] at h; cases h
    | some k =>
      rw [hp] at h
      obtain ⟨o', h1, h2, h3⟩ := keptOk_mem hk hp
      simp only [Option.map_some, h1] at h
      cases h
      exact .inr ⟨i - H0.length, k, o', by omega, hp, h1, h2, h3, rfl, by simp [keptρ, hi, hp]⟩

theorem kept_rw (hS : S.H = H0 ++ L) (hk : keptOk H0.length ks L d0 ks) {b : Nat} (h : (keptS S H0 L ks d0).rw b) :
    ∃ (i : Nat) (o : AO), S.H[i]? = some o ∧ o.live = true ∧ S.ρ i = some b ∧ (i < H0.length ∨ ∃ p : Nat, ks[p]? = some (i - H0.length)) := by
  obtain ⟨i, o, ho, hl, hρ⟩ := h
  change keptρ S H0.length ks i = some b at hρ
  rcases keptS_at hk ho with ⟨h1, h2, h3⟩ | ⟨p, k, o', rfl, h1, h2, h3, _, h4, h5⟩
  · exact ⟨i, o, by rw [hS, List.getElem?_append_left h1]; exact h2, hl, by rw [← h3]; exact hρ, .inl h1⟩
  · refine ⟨H0.length + k, o', by rw [hS, List.getElem?_append_right (by omega)]; simpa using h2, h3, by rw [← h5]; exact hρ, .inr ⟨p, by simpa using h1⟩⟩

theorem ext_kept (hS : S.H = H0 ++ L) (hk : keptOk H0.length ks L d0 ks) : Ext H0.length S (keptS S H0 L ks d0) where
  obj := fun i o hi h => ⟨o, by
    show (H0 ++ _)[i]? = _
    rw [List.getElem?_append_left hi]; rw [hS, List.getElem?_append_left hi] at h; exact h, Nat.le_refl _, fun _ => by show keptρ S H0.length ks i = _; simp [keptρ, hi]⟩
  imm := fun k _ hnr => ⟨rfl, fun hr => hnr (by obtain ⟨i, o, h1, h2, h3, _⟩ := kept_rw hS hk hr; exact ⟨i, o, h1, h2, h3⟩)⟩
  size := Nat.le_refl _
  shape := fun _ _ _ h => h
  os := rfl
  tape := rfl
  output := rfl

theorem imm_kept (hS : S.H = H0 ++ L) (hk : keptOk H0.length ks L d0 ks) {a : Addr} {us : List Value} (h : S.Imm a us) : (keptS S H0 L ks d0).Imm a us :=
  ⟨h.1, fun hne hr => h.2 hne (by obtain ⟨i, o, h1, h2, h3, _⟩ := kept_rw hS hk hr; exact ⟨i, o, h1, h2, h3⟩)⟩

theorem ownAt_kept {n i p off len sz cap : Nat} {a : Option Addr} (h : S.OwnAt i off len sz a cap) (hρ : (keptS S H0 L ks d0).ρ p = S.ρ i) (_hn : n = 0 := by rfl) : (keptS S H0 L ks d0).OwnAt p off len sz a cap := by
  unfold St.OwnAt at *
  rw [hρ]; exact h

theorem fz_rel (hsim : Sim S) (hS : S.H = H0 ++ L) (hk : keptOk H0.length ks L d0 ks) : ∀ (d : Nat), d ≤ d0 → ∀ (s : SV) (v : Value), VR S s v → VR (keptS S H0 L ks d0) (s.fz H0.length ks L d) v := by
  intro d
  induction d with
  | zero => intro _ s v _; exact .any v
  | succ d ih =>
    intro hd s v h
    have ih := ih (by omega)
    unfold SV.fz
    by_cases hu : s.under H0.length = true
    · rw [if_pos hu]; exact h.extB (ext_kept hS hk) (.inr hu)
    rw [if_neg hu]
    have row : ∀ (i off : Nat) (o : AO) (b : Nat), ¬ i < H0.length → S.H[i]? = some o → o.live = true → S.ρ i = some b → placeOf ks (i - H0.length) = none → ∀ m, off + m ≤ o.cells.length →
        ∃ us, (keptS S H0 L ks d0).Imm ⟨b, off, none⟩ us ∧ VRs (keptS S H0 L ks d0) (((o.cells.drop off).take m).map (SV.fz H0.length ks L d)) us := by
      intro i off o b hi ho hl hρ hp m hm
      have h1 := hsim.live i o ho hl
      rw [hρ] at h1
      obtain ⟨us, rest, hh, hvr⟩ := h1
      have hlen : us.length = o.cells.length := hvr.1
      refine ⟨(us.drop off).take m, ⟨?_, ?_⟩, ((hvr.drop off).take m).map ih⟩
      · intro j u hj
        rw [List.getElem?_take] at hj
        split at hj
        · rw [List.getElem?_drop] at hj
          have hadd : (⟨b, off, none⟩ : Addr).add j = ⟨b, off + j, none⟩ := by unfold Addr.add; split <;> simp_all
          rw [hadd]
          show S.w.cell? _ = _
          unfold World.cell?
          simp only [hh, Option.isSome_none, Bool.false_eq_true, if_false]
          simp [List.getElem?_append_left (getElem?_lt hj), hj]
        · cases hj
      · intro hne hr
        obtain ⟨i', o', ho', hl', hρ', hi'⟩ := kept_rw hS hk hr
        have e1 := hsim.inj i i' o o' b ho ho' hl hl' hρ hρ'
        subst e1
        rcases hi' with hi' | ⟨p, hi'⟩
        · exact hi hi'
        · exact placeOf_none hp hi'
    have hL : ∀ {i : Nat} {o : AO}, ¬ i < H0.length → L[i - H0.length]? = some o → S.H[i]? = some o := by
      intro i o hi ho; rw [hS, List.getElem?_append_right (by omega)]; exact ho
    have hρk : ∀ {i p : Nat}, ¬ i < H0.length → placeOf ks (i - H0.length) = some p → (keptS S H0 L ks d0).ρ (H0.length + p) = S.ρ i := by
      intro i p hi hp
      have := placeOf_some hp
      show keptρ S H0.length ks (H0.length + p) = _
      simp only [keptρ]
      rw [if_neg (by omega)]
      have e : H0.length + p - H0.length = p := by omega
      rw [e, this]
      show S.ρ _ = _
      congr 1; omega
    have hok : ∀ {i p : Nat}, ¬ i < H0.length → placeOf ks (i - H0.length) = some p → ∃ o', (keptS S H0 L ks d0).H[H0.length + p]? = some o' ∧ o'.ver = 0 := by
      intro i p hi hp
      have := placeOf_some hp
      obtain ⟨o, h1, h2, h3⟩ := keptOk_mem hk this
      refine ⟨{ cells := o.cells.map (SV.fz H0.length ks L d0), ty := o.ty, ver := 0, live := true }, ?_, rfl⟩
      · show (H0 ++ keptO H0.length ks L d0)[H0.length + p]? = some { cells := o.cells.map (SV.fz H0.length ks L d0), ty := o.ty, ver := 0, live := true }
        rw [List.getElem?_append_right (by omega)]
        unfold keptO
        rw [List.getElem?_map]
        have e : H0.length + p - H0.length = p := by omega
        rw [e, this]
        simp [h1]
    cases h with
    | any v => exact .any v
    | val v => exact .val v
    | gd b x v h0 h => exact .any v
    | nilslc => simpa using VR.nilslc
    | slc cells len a cap us hc hl hi h =>
      have hm := VRs.map (S := S) (l := cells) (us := us) ⟨hl, h⟩ ih
      exact .slc _ len a cap us hc hm.1 (imm_kept hS hk hi) hm.2
    | own i off len sz ver a cap o ho hv hc hz hat =>
      have hi : ¬ i < H0.length := by simpa [SV.under] using hu
      simp only
      cases hLi : L[i - H0.length]? with
      | none => exact .any _
      | some o2 =>
        have e2 := hL hi hLi
        rw [ho] at e2
        cases e2
        simp only
        cases hp : placeOf ks (i - H0.length) with
        | some p =>
          simp only
          split
          · rename_i hver
            obtain ⟨o', h1, h2⟩ := hok hi hp
            exact .own _ off len sz 0 a cap o' h1 (by omega) hc hz fun _ => ownAt_kept (hat hver) (hρk hi hp)
          · exact .any _
        | none =>
          simp only
          split
          · rename_i hcond
            obtain ⟨hl, hver, hlen⟩ := hcond
            have h2 := hat hver
            unfold St.OwnAt at h2
            cases hρ : S.ρ i with
            | none =>
              rw [hρ] at h2
              obtain ⟨rfl, rfl⟩ := h2
              cases a with
              | none => simpa using VR.nilslc
              | some a =>
                simp only [Nat.zero_mul, List.take_zero, List.map_nil]
                exact .slc [] 0 a 0 [] hc rfl ⟨fun j u hj => by simp at hj, fun hne => absurd rfl hne⟩ fun j s u hj => by simp at hj
            | some b =>
              rw [hρ] at h2
              obtain ⟨us, hi1, hi2⟩ := row i off o b hi ho hl hρ hp (len * sz) hlen
              cases a with
              | none =>
                have h0 := hz rfl
                subst h0
                have hc0 : cap = 0 := by
                  rcases h2 with h2 | ⟨h2, _⟩
                  · exact h2
                  · cases h2
                subst hc0
                simpa using VR.nilslc
              | some a =>
                rcases h2 with h2 | ⟨h2, _⟩
                · have : len = 0 := by omega
                  subst this
                  simp only [Nat.zero_mul, List.take_zero, List.map_nil]
                  exact .slc [] 0 a cap [] hc rfl ⟨fun j u hj => by simp at hj, fun hne => absurd rfl hne⟩ fun j s u hj => by simp at hj
                · cases h2
                  exact .slc _ len _ cap us hc hi2.1 hi1 hi2.2
          · exact .any _
    | ptrI cells len k a us hl hi h =>
      have hm := VRs.map (S := S) (l := cells) (us := us) ⟨hl, h⟩ ih
      exact .ptrI _ len k a us hm.1 (imm_kept hS hk hi) hm.2
    | ptrO i off len sz ver k a o ho hv hat =>
      have hi : ¬ i < H0.length := by simpa [SV.under] using hu
      simp only
      cases hLi : L[i - H0.length]? with
      | none => exact .any _
      | some o2 =>
        have e2 := hL hi hLi
        rw [ho] at e2
        cases e2
        simp only
        cases hp : placeOf ks (i - H0.length) with
        | some p =>
          simp only
          split
          · rename_i hver
            obtain ⟨o', h1, h2⟩ := hok hi hp
            refine .ptrO _ off len sz 0 k a o' h1 (by omega) fun _ => ?_
            obtain ⟨b, hb1, hb2⟩ := hat hver
            exact ⟨b, (hρk hi hp).trans hb1, hb2⟩
          · exact .any _
        | none =>
          simp only
          split
          · rename_i hcond
            obtain ⟨hl, hver, hlen⟩ := hcond
            obtain ⟨b, hρ, rfl⟩ := hat hver
            obtain ⟨us, hi1, hi2⟩ := row i off o b hi ho hl hρ hp (o.cells.length - off) (by omega)
            have e1 : (o.cells.drop off).take (o.cells.length - off) = o.cells.drop off := by rw [List.take_of_length_le]; simp
            rw [e1] at hi2
            have e2 : (⟨b, off + k, none⟩ : Addr) = (⟨b, off, none⟩ : Addr).add k := by unfold Addr.add; split <;> simp_all
            rw [e2]
            exact .ptrI _ 0 k _ us hi2.1 hi1 hi2.2
          · exact .any _
    | agg l us hl h => exact VR.of_agg (VRs.map (S := S) (l := l) (us := us) ⟨hl, h⟩ ih)
    | tup l us hl h => exact VR.of_tup (VRs.map (S := S) (l := l) (us := us) ⟨hl, h⟩ ih)
    | fn f x y us vs hl h hl' h' => exact VR.fn_of (VRs.map (S := S) (l := x) (us := us) ⟨hl, h⟩ ih) (VRs.map (S := S) (l := y) (us := vs) ⟨hl', h'⟩ ih)
    | ifc t x v h => exact .ifc t _ v (ih x v h)

theorem sim_kept (hsim : Sim S) (hS : S.H = H0 ++ L) (hcl : closed H0) (hk : keptOk H0.length ks L d0 ks) : Sim (keptS S H0 L ks d0) := by
  have hlive : ∀ (i : Nat) (o : AO), (keptS S H0 L ks d0).H[i]? = some o → o.live = true →
    match (keptS S H0 L ks d0).ρ i with
    | none => o.cells = []
    | some b => ∃ us rest, S.w.heap[b]? = some (.cells (us ++ rest).toArray o.ty (0, 0)) ∧ VRs (keptS S H0 L ks d0) o.cells us := by
    intro i o ho hl
    show match keptρ S H0.length ks i with
      | none => o.cells = []
      | some b => _
    rcases keptS_at hk ho with ⟨h1, h2, h3⟩ | ⟨p, k, o', rfl, h1, h2, h3, _, rfl, h5⟩
    · rw [h3]
      have h4 := hsim.live i o (by rw [hS, List.getElem?_append_left h1]; exact h2) hl
      cases hρ : S.ρ i with
      | none => rw [hρ] at h4; exact h4
      | some b =>
        rw [hρ] at h4
        obtain ⟨us, rest, h5, h6⟩ := h4
        exact ⟨us, rest, h5, h6.extB (ext_kept hS hk) ((SV.underL_iff _ _).2 (hcl i o h2))⟩
    · rw [h5]
      have h4 := hsim.live (H0.length + k) o' (by rw [hS, List.getElem?_append_right (by omega)]; simpa using h2) h3
      cases hρ : S.ρ (H0.length + k) with
      | none => rw [hρ] at h4; simp only; rw [h4]; rfl
      | some b =>
        rw [hρ] at h4
        obtain ⟨us, rest, h6, h7⟩ := h4
        exact ⟨us, rest, h6, h7.map (fz_rel hsim hS hk d0 (Nat.le_refl _))⟩
  refine ⟨hlive, ?_, ?_⟩
  · intro i o ho s hs
    rcases keptS_at hk ho with ⟨h1, h2, h3⟩ | ⟨p, k, o', rfl, h1, h2, h3, h6, rfl, h5⟩
    · refine ⟨?_, (hsim.bel i o (by rw [hS, List.getElem?_append_left h1]; exact h2) s hs).2⟩
      exact SV.under_mono (by show _ ≤ (H0 ++ _).length; simp) s (hcl i o h2 s hs)
    · refine ⟨?_, h6 s hs⟩
      have h8 := hlive _ _ ho rfl
      split at h8
      · rw [h8] at hs; cases hs
      · obtain ⟨us, rest, h9, h10⟩ := h8
        obtain ⟨j, hj⟩ := List.getElem?_of_mem hs
        obtain ⟨u, _, h11⟩ := h10.get hj
        exact h11.under
  · intro i j o o' b hi hj hl hl' hρ hρ'
    change keptρ S H0.length ks i = some b at hρ
    change keptρ S H0.length ks j = some b at hρ'
    rcases keptS_at hk hi with ⟨h1, h2, h3⟩ | ⟨p, k, o1, rfl, h1, h2, h3, _, rfl, h5⟩ <;> rcases keptS_at hk hj with ⟨g1, g2, g3⟩ | ⟨q, k', o2, rfl, g1, g2, g3, _, rfl, g5⟩
    · exact hsim.inj i j o o' b (by rw [hS, List.getElem?_append_left h1]; exact h2) (by rw [hS, List.getElem?_append_left g1]; exact g2) hl hl' (by rw [← h3]; exact hρ) (by rw [← g3]; exact hρ')
    · have := hsim.inj i (H0.length + k') o o2 b (by rw [hS, List.getElem?_append_left h1]; exact h2) (by rw [hS, List.getElem?_append_right (by omega)]; simpa using g2) hl g3 (by rw [← h3]; exact hρ) (by rw [← g5]; exact hρ')
      omega
    · have := hsim.inj (H0.length + k) j o1 o' b (by rw [hS, List.getElem?_append_right (by omega)]; simpa using h2) (by rw [hS, List.getElem?_append_left g1]; exact g2) h3 hl' (by rw [← h5]; exact hρ) (by rw [← g3]; exact hρ')
      omega
    · have := hsim.inj (H0.length + k) (H0.length + k') o1 o2 b (by rw [hS, List.getElem?_append_right (by omega)]; simpa using h2) (by rw [hS, List.getElem?_append_right (by omega)]; simpa using g2) h3 g3 (by rw [← h5]; exact hρ) (by rw [← g5]; exact hρ')
      have e : k = k' := by omega
      subst e
      rw [keptOk_inj hk h1 g1]
end

/-- THE END OF A FUNCTION that keeps the objects 'ks' of its own. -/
theorem cv_keep {n0 : Nat} {H1 H0 L : List AO} {r : SV} (d : Nat) (ks : List Nat) (h : H1 = H0 ++ L) (hn : n0 ≤ H0.length) (hcl : closed H0) (hk : keptOk H0.length ks L d ks) :
    Cv n0 r H1 (r.fz H0.length ks L d) (H0 ++ keptO H0.length ks L d) := by
  intro S v hS hsim hv
  subst h
  exact ⟨_, (ext_kept hS hk).mono hn, sim_kept hsim hS hcl hk, fz_rel hsim hS hk d (Nat.le_refl _) r v hv⟩

/-- THE END OF A FUNCTION that keeps none. -/
theorem cv_none {n0 : Nat} {H1 H0 L : List AO} {r : SV} (d : Nat) (h : H1 = H0 ++ L) (hn : n0 ≤ H0.length) (hcl : closed H0) : Cv n0 r H1 (r.fz H0.length [] L d) H0 := by
  have := cv_keep (r := r) d [] h hn hcl trivial
  simpa [keptO] using this

end Go.Ab
