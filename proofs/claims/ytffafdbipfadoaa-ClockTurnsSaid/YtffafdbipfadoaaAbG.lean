/-
  What a function leaves: its own objects forgotten, or given up with what its result holds of them.
-/
import Derived.Test.YtffafdbipfadoaaAbF
set_option linter.all false
namespace Go.Ab

theorem cv_drop {n0 : Nat} {H1 H' L : List AO} {r : SV} (h : H1 = H' ++ L) (hn : n0 ≤ H'.length) (hcl : closed H') (hr : r.under H'.length = true) : Cv n0 r H1 r H' := by
  intro S v hS hsim hv
  have hlen : H'.length ≤ S.H.length := by rw [hS, h]; simp
  have ht : S.H.take H'.length = H' := by rw [hS, h]; simp
  have hc : ∀ (i : Nat) (o : AO), i < H'.length → S.H[i]? = some o → ∀ s ∈ o.cells, s.under H'.length = true := by
    intro i o hi ho s hs
    refine hcl i o ?_ s hs
    rw [hS, h, List.getElem?_append_left hi] at ho; exact ho
  have h1 := sim_drop hsim hlen hc
  have h2 := ext_drop (S := S) hlen
  rw [ht] at h1 h2
  exact ⟨S.ρ, h2.mono hn, h1, hv.extB h2 (.inr hr)⟩

/-- A value with what it holds of the objects from n on written out (and these given up). -/
def SV.frz : Nat → Nat → List AO → SV → SV
  | 0, _, _, _ => .any
  | d + 1, n, H, s =>
    match s with
    | .any => .any
    | .val v => .val v
    | .gd _ _ => .any
    | .slc cells len => .slc (cells.map (SV.frz d n H)) len
    | .own i off len sz ver =>
      if i < n then .own i off len sz ver else
      match H[i]? with
      | some o => if o.live = true ∧ o.ver = ver ∧ off + len * sz ≤ o.cells.length then .slc (((o.cells.drop off).take (len * sz)).map (SV.frz d n H)) len else .any
      | none => .any
    | .ptr (.own i off len sz ver) k =>
      if i < n then .ptr (.own i off len sz ver) k else
      match H[i]? with
      | some o => if o.live = true ∧ o.ver = ver ∧ off < o.cells.length then .ptr (.slc ((o.cells.drop off).map (SV.frz d n H)) 0) k else .any
      | none => .any
    | .ptr (.slc cells len) k => .ptr (.slc (cells.map (SV.frz d n H)) len) k
    | .ptr _ _ => .any
    | .agg l => .agg (l.map (SV.frz d n H))
    | .tup l => .tup (l.map (SV.frz d n H))
    | .fn f x y => .fn f (x.map (SV.frz d n H)) (y.map (SV.frz d n H))
    | .ifc t x => .ifc t (SV.frz d n H x)

section
variable {S : St}

theorem VRs.map {S' : St} {l : List SV} {us : List Value} (h : VRs S l us) {f : SV → SV} (hf : ∀ s v, VR S s v → VR S' (f s) v) : VRs S' (l.map f) us := by
  refine ⟨by simp [h.1], ?_⟩
  intro j s u h1 h2
  rw [List.getElem?_map] at h1
  cases hj : l[j]? with
  | none => rw [hj] at h1; cases h1
  | some s0 => rw [hj] at h1; cases h1; exact hf s0 u (h.2 j s0 u hj h2)

theorem rw_take {n k : Nat} (h : (⟨S.ρ, S.H.take n, S.w⟩ : St).rw k) : ∃ i o, i < n ∧ S.H[i]? = some o ∧ o.live = true ∧ S.ρ i = some k := by
  obtain ⟨i, o, ho, hl, hρ⟩ := h
  simp only [List.getElem?_take] at ho
  by_cases hi : i < n
  · rw [if_pos hi] at ho; exact ⟨i, o, hi, ho, hl, hρ⟩
  · rw [if_neg hi] at ho; cases ho

theorem imm_take {a : Addr} {us : List Value} {n : Nat} (h : S.Imm a us) : (⟨S.ρ, S.H.take n, S.w⟩ : St).Imm a us :=
  ⟨h.1, fun hne hr => h.2 hne (by obtain ⟨i, o, _, ho, hl, hρ⟩ := rw_take hr; exact ⟨i, o, ho, hl, hρ⟩)⟩

theorem frz_rel (hS : Sim S) (n : Nat) : ∀ (d : Nat) (s : SV) (v : Value), VR S s v → VR ⟨S.ρ, S.H.take n, S.w⟩ (s.frz d n S.H) v := by
  intro d
  induction d with
  | zero => intro s v _; exact .any v
  | succ d ih =>
    intro s v h
    have kept : ∀ {i : Nat} {o : AO}, i < n → S.H[i]? = some o → (S.H.take n)[i]? = some o := by
      intro i o hi ho; rw [List.getElem?_take, if_pos hi]; exact ho
    -- the row of an object that is given up
    have row : ∀ (i off : Nat) (o : AO) (b : Nat), ¬ i < n → S.H[i]? = some o → o.live = true → S.ρ i = some b → ∀ m, off + m ≤ o.cells.length →
        ∃ us, (⟨S.ρ, S.H.take n, S.w⟩ : St).Imm ⟨b, off, none⟩ us ∧ VRs ⟨S.ρ, S.H.take n, S.w⟩ (((o.cells.drop off).take m).map (SV.frz d n S.H)) us := by
      intro i off o b hi ho hl hρ m hm
      have h1 := hS.live i o ho hl
      rw [hρ] at h1
      obtain ⟨us, rest, hh, hvr⟩ := h1
      have hlen : us.length = o.cells.length := hvr.1
      refine ⟨(us.drop off).take m, ⟨?_, ?_⟩, ((hvr.drop off).take m).map ih⟩
      · intro j u hj
        rw [List.getElem?_take] at hj
        split at hj
        · rw [List.getElem?_drop] at hj
          have hadd : (⟨b, off, none⟩ : Addr).add j = ⟨b, off + j, none⟩ := by unfold Addr.add; split <;> simp_all
          rw [hadd]
          unfold World.cell?
          simp only [hh, Option.isSome_none, Bool.false_eq_true, if_false]
          simp [List.getElem?_append_left (getElem?_lt hj), hj]
        · cases hj
      · intro hne hr
        obtain ⟨i', o', hi', ho', hl', hρ'⟩ := rw_take hr
        have := hS.inj i i' o o' b ho ho' hl hl' hρ hρ'
        omega
    cases h with
    | any v => exact .any v
    | val v => exact .val v
    | gd b x v h0 h => exact .any v
    | nilslc => simpa [SV.frz] using VR.nilslc
    | slc cells len a cap us hc hl hi h =>
      have hm := VRs.map (S := S) (l := cells) (us := us) ⟨hl, h⟩ ih
      exact .slc _ len a cap us hc hm.1 (imm_take hi) hm.2
    | own i off len sz ver a cap o ho hv hc hz hat =>
      simp only [SV.frz]
      by_cases hi : i < n
      · rw [if_pos hi]
        refine .own i off len sz ver a cap o (kept hi ho) hv hc hz fun e => ?_
        have := hat e
        unfold St.OwnAt at *
        exact this
      · rw [if_neg hi, ho]
        simp only
        split
        · rename_i hcond
          obtain ⟨hl, hver, hlen⟩ := hcond
          have h2 := hat hver
          unfold St.OwnAt at h2
          cases hρ : S.ρ i with
          | none =>
            rw [hρ] at h2
            obtain ⟨rfl, rfl⟩ := h2
            cases a with
            | none => simpa using VR.nilslc
            | some a =>
              simp only [Nat.zero_mul, List.take_zero, List.map_nil]
              exact .slc [] 0 a 0 [] hc rfl ⟨fun j u hj => by simp at hj, fun hne => absurd rfl hne⟩ fun j s u hj => by simp at hj
          | some b =>
            rw [hρ] at h2
            obtain ⟨us, hi1, hi2⟩ := row i off o b hi ho hl hρ (len * sz) hlen
            cases a with
            | none =>
              have h0 := hz rfl
              subst h0
              have hc0 : cap = 0 := by
                rcases h2 with h2 | ⟨h2, _⟩
                · exact h2
                · cases h2
              subst hc0
              simpa using VR.nilslc
            | some a =>
              rcases h2 with h2 | ⟨h2, _⟩
              · have : len = 0 := by omega
                subst this
                simp only [Nat.zero_mul, List.take_zero, List.map_nil]
                exact .slc [] 0 a cap [] hc rfl ⟨fun j u hj => by simp at hj, fun hne => absurd rfl hne⟩ fun j s u hj => by simp at hj
              · cases h2
                exact .slc _ len _ cap us hc hi2.1 hi1 hi2.2
        · exact .any _
    | ptrI cells len k a us hl hi h =>
      have hm := VRs.map (S := S) (l := cells) (us := us) ⟨hl, h⟩ ih
      exact .ptrI _ len k a us hm.1 (imm_take hi) hm.2
    | ptrO i off len sz ver k a o ho hv hat =>
      simp only [SV.frz]
      by_cases hi : i < n
      · rw [if_pos hi]
        exact .ptrO i off len sz ver k a o (kept hi ho) hv hat
      · rw [if_neg hi, ho]
        simp only
        split
        · rename_i hcond
          obtain ⟨hl, hver, hlen⟩ := hcond
          obtain ⟨b, hρ, rfl⟩ := hat hver
          obtain ⟨us, hi1, hi2⟩ := row i off o b hi ho hl hρ (o.cells.length - off) (by omega)
          have e1 : (o.cells.drop off).take (o.cells.length - off) = o.cells.drop off := by rw [List.take_of_length_le]; simp
          rw [e1] at hi2
          have e2 : (⟨b, off + k, none⟩ : Addr) = (⟨b, off, none⟩ : Addr).add k := by unfold Addr.add; split <;> simp_all
          rw [e2]
          exact .ptrI _ 0 k _ us hi2.1 hi1 hi2.2
        · exact .any _
    | agg l us hl h => exact VR.of_agg (VRs.map (S := S) (l := l) (us := us) ⟨hl, h⟩ ih)
    | tup l us hl h => exact VR.of_tup (VRs.map (S := S) (l := l) (us := us) ⟨hl, h⟩ ih)
    | fn f x y us vs hl h hl' h' => exact VR.fn_of (VRs.map (S := S) (l := x) (us := us) ⟨hl, h⟩ ih) (VRs.map (S := S) (l := y) (us := vs) ⟨hl', h'⟩ ih)
    | ifc t x v h => exact .ifc t _ v (ih x v h)

end

theorem cv_frz {n0 : Nat} {H1 H' L : List AO} {r : SV} (d : Nat) (h : H1 = H' ++ L) (hn : n0 ≤ H'.length) (hcl : closed H') : Cv n0 r H1 (r.frz d H'.length H1) H' := by
  intro S v hS hsim hv
  have hlen : H'.length ≤ S.H.length := by rw [hS, h]; simp
  have ht : S.H.take H'.length = H' := by rw [hS, h]; simp
  have hc : ∀ (i : Nat) (o : AO), i < H'.length → S.H[i]? = some o → ∀ s ∈ o.cells, s.under H'.length = true := by
    intro i o hi ho s hs
    refine hcl i o ?_ s hs
    rw [hS, h, List.getElem?_append_left hi] at ho; exact ho
  have h1 := sim_drop hsim hlen hc
  have h2 := ext_drop (S := S) hlen
  have h3 := frz_rel hsim H'.length d r v hv
  rw [ht] at h1 h2 h3
  exact ⟨S.ρ, h2.mono hn, h1, by rw [← hS]; exact h3⟩

end Go.Ab
