/-
  The same, instruction by instruction.
-/
import Derived.Test.YtffafdbipfadoaaAb5
set_option linter.all false
namespace Go.Ab

section
variable {P : Program} {S : St} {e : Env} {a : Act}

theorem run_ld1 (hS : Sim S) {t : TypeId} {p : SV} {v : Value} (hp : VR S p v) (ht : oneB P t = true) (h : 0 < (p.at S.H).length) :
    ∃ u, (Instr.loadAt t v).run P S.w = .ok u S.w ∧ VR S ((p.at S.H).headD .any) u := by
  have h0 : (p.at S.H)[0]? = some (p.at S.H)[0] := List.getElem?_eq_getElem h
  obtain ⟨ad, u, rfl, hcell, hvr⟩ := hp.at hS h0
  have hcell' : S.w.cell? ad = some u := by simpa [Addr.add] using hcell
  refine ⟨u, ?_, ?_⟩
  · simp [Instr.loadAt, Instr.sureAddr, loadVar, run_isAgg_one ht, hcell']
  · rw [List.headD_eq_head?_getD, List.head?_eq_getElem?, h0]; exact hvr

theorem run_ldn (hS : Sim S) {t : TypeId} {p : SV} {v : Value} {n : Nat} (hp : VR S p v) (ht : aggB P t = true) (hn : sizeB P t n = true) (h : n ≤ (p.at S.H).length) (h0 : 0 < n) :
    ∃ u, (Instr.loadAt t v).run P S.w = .ok u S.w ∧ VR S (.agg ((p.at S.H).take n)) u := by
  have hc : ∀ j, j < n → ∃ c, (p.at S.H)[j]? = some c := fun j hj => ⟨_, List.getElem?_eq_getElem (by omega)⟩
  obtain ⟨c0, hc0⟩ := hc 0 h0
  obtain ⟨ad, u0, rfl, _, _⟩ := hp.at hS hc0
  have hall : ∀ j, j < n → ∃ u, S.w.cell? (ad.add j) = some u ∧ ∀ c, (p.at S.H)[j]? = some c → VR S c u := by
    intro j hj
    obtain ⟨c, hcj⟩ := hc j hj
    obtain ⟨ad', u, he, h1, h2⟩ := hp.at hS hcj
    cases he
    exact ⟨u, h1, fun c' hc' => by rw [hcj] at hc'; cases hc'; exact h2⟩
  obtain ⟨f, hf⟩ : ∃ f : Nat → Value, ∀ j, j < n → S.w.cell? (ad.add j) = some (f j) ∧ ∀ c, (p.at S.H)[j]? = some c → VR S c (f j) := by
    refine ⟨fun j => (S.w.cell? (ad.add j)).getD undef, fun j hj => ?_⟩
    obtain ⟨u, h1, h2⟩ := hall j hj
    simp only [h1, Option.getD_some]
    exact ⟨trivial, h2⟩
  have hl := run_loadCells_list (P := P) S.w ad ((List.range n).map f) (by
    intro j v hj
    rw [List.getElem?_map] at hj
    by_cases hjn : j < n
    · rw [List.getElem?_range hjn] at hj; simp at hj; subst hj; exact (hf j hjn).1
    · rw [List.getElem?_eq_none (by simp; omega)] at hj; cases hj)
  refine ⟨.agg ((List.range n).map f).toArray, ?_, ?_⟩
  · simp only [Instr.loadAt, Instr.sureAddr, loadVar, Sem.run_bind, Sem.run_pure, Result.andThen_ok, run_isAgg_agg ht, if_true, run_sizeOf' hn]
    have : ((List.range n).map f).length = n := by simp
    rw [this] at hl
    simp [hl]
  · refine .agg _ _ (by simp; omega) ?_
    intro j s u h1 h2
    rw [List.getElem?_take] at h1
    by_cases hjn : j < n
    · rw [if_pos hjn] at h1
      rw [List.getElem?_map, List.getElem?_range hjn] at h2
      simp at h2; subst h2
      exact (hf j hjn).2 s h1
    · rw [if_neg hjn] at h1; cases h1

theorem ptr_add {s : SV} {k off : Nat} {v : Value} (h : VR S (.ptr s k) v) : ∃ ad, v = .pointer (some ad) ∧ VR S (.ptr s (k + off)) (.pointer (some (ad.add off))) := by
  cases h with
  | ptrI cells len k a us hl hi h =>
    refine ⟨_, rfl, ?_⟩
    rw [add_add]
    exact .ptrI cells len _ a us hl hi h
  | ptrO i o1 len sz ver k a o ho hv h =>
    refine ⟨a, rfl, .ptrO i o1 len sz ver _ _ o ho hv fun e => ?_⟩
    obtain ⟨b, h1, rfl⟩ := h e
    refine ⟨b, h1, ?_⟩
    unfold Addr.add; split
    · subst_vars; simp
    · simp [Nat.add_assoc]

theorem run_fieldAt {s : TypeId} {f off : Nat} {ad : Addr}
    (h : (match P.underlying s with | some (.struct fs) => (match fs[f]? with | some fd => fd.offset == off && (match P.info? fd.type with | some i => i.size != 0 | none => false) | none => false) | _ => false) = true) (w : World) :
    (Instr.fieldAt s (.pointer (some ad)) f).run P w = .ok (.pointer (some (ad.add off))) w := by
  split at h
  · rename_i fs hu
    split at h
    · rename_i fd hf
      split at h
      · rename_i i hi
        simp at h
        simp [Instr.fieldAt, run_underlying hu, hf, Instr.sureAddr, fieldPlace, sizeOf, typeInfo, hi, h]
      · simp at h
    · cases h
  · cases h

theorem fieldB_spec {s : TypeId} {f off n : Nat} (h : fieldB P s f off n = true) : ∃ fs fd, P.underlying s = some (.struct fs) ∧ fs[f]? = some fd ∧ fd.offset = off ∧ sizeB P fd.type n = true := by
  unfold fieldB at h
  split at h
  · rename_i fs hu
    split at h
    · rename_i fd hf; simp at h; exact ⟨fs, fd, hu, hf, h.1, h.2⟩
    · cases h
  · cases h
theorem fieldOneB_spec {s : TypeId} {f : Nat} {one : Bool} {fs : Array Field} {fd : Field} (hu : P.underlying s = some (.struct fs)) (hf : fs[f]? = some fd) (h : fieldOneB P s f one = true) :
    (if one then oneB P fd.type else aggB P fd.type) = true := by
  unfold fieldOneB at h
  simp only [hu, hf] at h; exact h

theorem run_part_one {t : TypeId} {cs : Array Value} {off : Nat} {u : Value} (ht : oneB P t = true) (h : cs[off]? = some u) (w : World) : (part t cs off).run P w = .ok u w := by
  simp [part, run_isAgg_one ht, h]
theorem run_part_agg {t : TypeId} {cs : Array Value} {off n : Nat} (ht : aggB P t = true) (hn : sizeB P t n = true) (w : World) : (part t cs off).run P w = .ok (.agg (cs.extract off (off + n))) w := by
  simp [part, run_isAgg_agg ht, run_sizeOf' hn]

theorem VR.agg_inv {l : List SV} {v : Value} (h : VR S (.agg l) v) : ∃ us, v = .agg us.toArray ∧ VRs S l us := by
  cases h with
  | agg l us hl h => exact ⟨us, rfl, hl, h⟩
theorem VR.tup_inv {l : List SV} {v : Value} (h : VR S (.tup l) v) : ∃ us, v = .tuple us.toArray ∧ VRs S l us := by
  cases h with
  | tup l us hl h => exact ⟨us, rfl, hl, h⟩
theorem VR.of_agg {l : List SV} {us : List Value} (h : VRs S l us) : VR S (.agg l) (.agg us.toArray) := .agg l us h.1 h.2
theorem VR.of_tup {l : List SV} {us : List Value} (h : VRs S l us) : VR S (.tup l) (.tuple us.toArray) := .tup l us h.1 h.2

theorem VRs.getD {l : List SV} {us : List Value} (h : VRs S l us) {j : Nat} (hj : j < l.length) : ∃ u, us[j]? = some u ∧ VR S (l.getD j .any) u := by
  obtain ⟨u, h1, h2⟩ := h.get (List.getElem?_eq_getElem hj)
  refine ⟨u, h1, ?_⟩
  rw [List.getD_eq_getElem?_getD, List.getElem?_eq_getElem hj]; exact h2

theorem extract_toArray (us : List Value) (i j : Nat) : us.toArray.extract i j = ((us.drop i).take (j - i)).toArray := by simp

theorem run_field {s : TypeId} {f off n : Nat} {one : Bool} {x : SV} {v : Value} {l : List SV} (hx : VR S x v) (hvd : x.vd = true) (hl : x.ug = .agg l) (h1 : fieldB P s f off n = true) (h2 : fieldOneB P s f one = true) (w : World) :
    (one = true → off < l.length → ∃ u, (Instr.field s v f).run P w = .ok u w ∧ VR S (l.getD off .any) u) ∧
    (one = false → ∃ u, (Instr.field s v f).run P w = .ok u w ∧ VR S (.agg ((l.drop off).take n)) u) := by
  obtain ⟨fs, fd, hu, hf, ho, hn⟩ := fieldB_spec h1
  have h3 := fieldOneB_spec hu hf h2
  have hx' := hx.ug hvd
  rw [hl] at hx'
  obtain ⟨us, rfl, hus⟩ := hx'.agg_inv
  constructor
  · intro hone hlt
    subst hone
    obtain ⟨u, hu1, hu2⟩ := hus.getD hlt
    refine ⟨u, ?_, hu2⟩
    simp only [Instr.field, Sem.run_bind, run_underlying hu, Result.andThen_ok, hf, asAgg, Sem.run_pure]
    exact run_part_one (by simpa using h3) (by rw [ho]; simpa using hu1) w
  · intro hone
    subst hone
    refine ⟨_, ?_, VR.of_agg ((hus.drop off).take n)⟩
    simp only [Instr.field, Sem.run_bind, run_underlying hu, Result.andThen_ok, hf, asAgg, Sem.run_pure]
    rw [run_part_agg (by simpa using h3) hn w, ho, extract_toArray]
    congr 3; congr 1; congr 1; omega

theorem slB_spec {t : TypeId} {sz : Nat} (h : slB P t sz = true) : ∃ el, P.underlying t = some (.slice el) ∧ sizeB P el sz = true := by
  unfold slB at h
  split at h
  · exact ⟨_, by assumption, h⟩
  · cases h

theorem run_indexAt {t : TypeId} {sz : Nat} {s : SV} {v : Value} (hs : VR S s v) (hsl : s.isSl = true) (ht : slB P t sz = true) {k : IntKind} {j : Int} (h0 : 0 ≤ j) (h1 : j < s.slen) :
    ∃ u, (Instr.indexAt t v (.int k j)).run P S.w = .ok u S.w ∧ VR S (.ptr s (j.toNat * sz)) u := by
  obtain ⟨el, hu, hsz⟩ := slB_spec ht
  have run : ∀ (ad : Addr) (len cap : Nat), j < len → (Instr.indexAt t (.slice (some ad) len cap) (.int k j)).run P S.w = .ok (.pointer (some (ad.add (j.toNat * sz)))) S.w := by
    intro ad len cap hlt
    simp [Instr.indexAt, run_asIntOf, run_underlying hu, h0, hlt, run_sizeOf' hsz]
  cases hs with
  | slc cells len ad cap us hc hl hi h => exact ⟨_, run ad len cap h1, .ptrI cells len _ ad us hl hi h⟩
  | nilslc => simp [SV.slen] at h1; omega
  | own i off len sz' ver ad cap o ho hv hc hz h =>
    simp only [SV.slen] at h1
    cases ad with
    | none => have := hz rfl; omega
    | some ad =>
      refine ⟨_, run ad len cap h1, .ptrO i off len sz' ver _ _ o ho hv fun e => ?_⟩
      have h2 := h e
      unfold St.OwnAt at h2
      cases hρ : S.ρ i with
      | none => rw [hρ] at h2; obtain ⟨h2, _⟩ := h2; omega
      | some b =>
        rw [hρ] at h2
        rcases h2 with h2 | ⟨h2, _⟩
        · omega
        · cases h2
          refine ⟨b, rfl, ?_⟩
          unfold Addr.add; split
          · rename_i h3; simp [h3]
          · rfl
  | val v => cases v <;> simp [SV.isSl] at hsl <;> simp [SV.slen] at h1 <;> omega
  | _ => simp [SV.isSl] at hsl

end
end Go.Ab
