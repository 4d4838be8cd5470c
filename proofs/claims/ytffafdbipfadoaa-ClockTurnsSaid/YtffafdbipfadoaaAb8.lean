/-
  An instruction without an effect: the model's operation gives its value.
-/
import Derived.Test.YtffafdbipfadoaaAb7
import Derived.Laws.StructEq
set_option linter.all false
namespace Go.Ab

section
variable {P : Program} {S : St} {e : Env} {a : Act}

theorem chkOds_spec : ∀ {xs : List Operand} {ys : List Od}, chkOds xs ys = true → EnvR S e a.tmps → VRs S (ys.map e.ev) (xs.map a.eval)
  | [], [], _, _ => VRs.nil S
  | [], _ :: _, h, _ => by simp [chkOds] at h
  | _ :: _, [], h, _ => by simp [chkOds] at h
  | x :: xs, y :: ys, h, he => by
    simp only [chkOds, Bool.and_eq_true] at h
    exact VRs.cons (chkOd_spec h.1 he) (chkOds_spec h.2 he)

theorem zeroB_spec {t : TypeId} {z : List SV} (h : zeroB P t z = true) : ∃ zv, (∀ w : World, (zeroValue t).run P w = .ok zv w) ∧ VRs S z zv.cells.toList ∧ ∀ s ∈ z, s.isCell = true ∧ ∀ n, s.under n = true := by
  unfold zeroB at h
  split at h
  · rename_i i hi
    split at h
    · rename_i zv hz
      simp only [Bool.and_eq_true, beq_iff_eq] at h
      obtain ⟨h1, h2⟩ := h
      rw [List.all_eq_true] at h2
      have key : ∀ (j : Nat) (s : SV) (u : Value), z[j]? = some s → zv.cells.toList[j]? = some u → constB s u = true ∧ s.isCell = true := by
        intro j s u hj hu
        have := h2 (s, u) (List.mem_of_getElem? (i := j) (by rw [List.getElem?_zip_eq_some]; exact ⟨hj, hu⟩))
        simpa using this
      refine ⟨zv, fun w => by simp [zeroValue, typeInfo, hi, hz], ⟨h1, fun j s u hj hu => constB_spec (key j s u hj hu).1⟩, ?_⟩
      intro s hs
      obtain ⟨j, hj⟩ := List.getElem?_of_mem hs
      have hlt : j < zv.cells.toList.length := by rw [h1]; exact getElem?_lt hj
      obtain ⟨h3, h4⟩ := key j s _ hj (List.getElem?_eq_getElem hlt)
      refine ⟨h4, fun n => ?_⟩
      cases s <;> simp_all [constB, SV.isCell, SV.under]
      rename_i cells len
      cases cells with
      | nil => simp [SV.underL]
      | cons c r => cases h3
    · cases h
  · cases h

theorem partsB_spec {t : TypeId} : ∀ {ps : List (Nat × Operand)} {qs : List (Nat × Nat × Od)}, partsB P t ps qs = true → EnvR S e a.tmps →
    ps.length = qs.length ∧ ∀ (j : Nat) (p : Nat × Operand) (q : Nat × Nat × Od), ps[j]? = some p → qs[j]? = some q →
      VR S (e.ev q.2.2) (a.eval p.2) ∧ (match P.underlying t with
     | some (.struct _) => fieldB P t p.1 q.1 q.2.1
     | some (.array _ el) => q.1 == p.1 * q.2.1 && sizeB P el q.2.1
     | _ => false) = true
  | [], [], _, _ => ⟨rfl, fun j p q h => by simp at h⟩
  | [], _ :: _, h, _ => by simp [partsB] at h
  | _ :: _, [], h, _ => by simp [partsB] at h
  | (f, x) :: ps, (off, size, y) :: qs, h, he => by
    simp only [partsB, Bool.and_eq_true] at h
    obtain ⟨h1, h2⟩ := partsB_spec h.2 he
    refine ⟨by simp [h1], ?_⟩
    intro j p q hp hq
    cases j with
    | zero =>
      simp at hp hq; subst hp hq
      refine ⟨chkOd_spec h.1.1 he, ?_⟩
      have := h.1.2
      simp only
      split at this <;> simp_all
    | succ j => exact h2 j p q (by simpa using hp) (by simpa using hq)

theorem places_of (fs : List Field) (h : ∀ fd ∈ fs, (P.info? fd.type).isSome = true) :
    ∃ pl : List (Nat × Nat), fs.mapM (fun f => (P.info? f.type).map fun i => (f.offset, i.size)) = some pl ∧ pl.length = fs.length ∧
      ∀ (j : Nat) (fd : Field), fs[j]? = some fd → ∃ n, pl[j]? = some (fd.offset, n) ∧ sizeB P fd.type n = true := by
  induction fs with
  | nil => exact ⟨[], rfl, rfl, fun j fd h => by simp at h⟩
  | cons fd r ih =>
    obtain ⟨i, hi⟩ := Option.isSome_iff_exists.1 (h fd (by simp))
    obtain ⟨pl, h1, h2, h3⟩ := ih (fun f hf => h f (by simp [hf]))
    refine ⟨(fd.offset, i.size) :: pl, ?_, by simp [h2], ?_⟩
    · simp [List.mapM_cons, hi, h1]
    · intro j fd' hj
      cases j with
      | zero => simp at hj; subst hj; exact ⟨i.size, rfl, by simp [sizeB, hi]⟩
      | succ j => exact h3 j fd' (by simpa using hj)

theorem eqFields_sound {xs ys : Array Value} (d : Nat) (w : World) : ∀ (fs : List Field) (ks : List CK) (j : Nat) (l m : List SV) (us vs : List Value), flatB P fs ks j = true →
    VRs S l us → VRs S m vs → (∀ k, us[k]? = xs[j + k]?) → (∀ k, vs[k]? = ys[j + k]?) → eqSide ks l m → (Op.eqFields (d + 1) xs ys fs).run P w = .ok (eqAll ks l m) w
  | [], [], j, l, m, us, vs, _, _, _, _, _, h => by simp [Op.eqFields, eqAll]
  | [], _ :: _, j, l, m, us, vs, hf, _, _, _, _, h => by simp [flatB] at hf
  | _ :: _, [], j, l, m, us, vs, hf, _, _, _, _, h => by simp [flatB] at hf
  | f :: fs, k :: ks, j, [], m, us, vs, hf, _, _, _, _, h => by cases k <;> simp [eqSide] at h
  | f :: fs, k :: ks, j, _ :: _, [], us, vs, hf, _, _, _, _, h => by cases k <;> simp [eqSide] at h
  | f :: fs, k :: ks, j, x :: l, y :: m, us, vs, hf, h1, h2, h3, h4, h => by
    rw [flatB, Bool.and_eq_true, Bool.and_eq_true, Bool.and_eq_true] at hf
    obtain ⟨⟨⟨g1, g2⟩, g3⟩, g4⟩ := hf
    obtain ⟨u, us', rfl⟩ : ∃ u us', us = u :: us' := by cases us with | nil => simp [VRs] at h1 | cons u us' => exact ⟨u, us', rfl⟩
    obtain ⟨v, vs', rfl⟩ : ∃ v vs', vs = v :: vs' := by cases vs with | nil => simp [VRs] at h2 | cons v vs' => exact ⟨v, vs', rfl⟩
    have hx := h1.2 0 x u rfl rfl
    have hy := h2.2 0 y v rfl rfl
    have hxs : xs[j]? = some u := by have := h3 0; simpa using this.symm
    have hys : ys[j]? = some v := by have := h4 0; simpa using this.symm
    have t1 : VRs S l us' := ⟨by have := h1.1; simpa using this, fun i s u hi hu => h1.2 (i + 1) s u (by simpa using hi) (by simpa using hu)⟩
    have t2 : VRs S m vs' := ⟨by have := h2.1; simpa using this, fun i s u hi hu => h2.2 (i + 1) s u (by simpa using hi) (by simpa using hu)⟩
    have t3 : ∀ k, us'[k]? = xs[j + 1 + k]? := fun k => by have := h3 (k + 1); simp at this; rw [this]; congr 1; omega
    have t4 : ∀ k, vs'[k]? = ys[j + 1 + k]? := fun k => by have := h4 (k + 1); simp at this; rw [this]; congr 1; omega
    have hone : oneB P f.type = true := by
      unfold ckB at g3
      unfold oneB
      cases k <;> simp only at g3 <;> split at g3 <;> first | (rename_i hu; rw [hu]) | cases g3
    have go : ∀ (b : Bool), (Op.equalIn (d + 1) f.type u v).run P w = .ok b w → ∀ rest, (Op.eqFields (d + 1) xs ys fs).run P w = .ok rest w →
        (Op.eqFields (d + 1) xs ys (f :: fs)).run P w = .ok (b && rest) w := by
      intro b hb rest hrest
      have hne : f.name ≠ "_" := by simpa using g1
      have ho : f.offset = j := by simpa using g2
      simp only [Op.eqFields]
      rw [if_pos hne]
      simp only [Sem.run_bind, ho, run_part_one hone hxs w, run_part_one hone hys w, Result.andThen_ok, hb]
      cases b <;> simp [hrest]
    cases k with
    | i k =>
      simp only [eqSide] at h
      have e1 := hx.isI h.1.1; have e2 := hy.isI h.1.2
      subst e1 e2
      have ih := eqFields_sound d w fs ks (j + 1) l m us' vs' g4 t1 t2 t3 t4 h.2
      simp only [eqAll]
      refine go _ ?_ _ ih
      unfold ckB at g3
      simp only at g3
      split at g3
      · rename_i k' hu; exact run_equalIn_int w d f.type k k' _ _ hu
      · cases g3
    | b =>
      simp only [eqSide] at h
      have e1 := hx.isB h.1.1; have e2 := hy.isB h.1.2
      subst e1 e2
      have ih := eqFields_sound d w fs ks (j + 1) l m us' vs' g4 t1 t2 t3 t4 h.2
      simp only [eqAll]
      refine go _ ?_ _ ih
      unfold ckB at g3
      simp only at g3
      split at g3
      · rename_i hu; exact run_equalIn_bool w d f.type _ _ hu
      · cases g3
    | s =>
      simp only [eqSide] at h
      have e1 := hx.isS h.1.1; have e2 := hy.isS h.1.2
      subst e1 e2
      have ih := eqFields_sound d w fs ks (j + 1) l m us' vs' g4 t1 t2 t3 t4 h.2
      simp only [eqAll]
      refine go _ ?_ _ ih
      unfold ckB at g3
      simp only at g3
      split at g3
      · rename_i hu
        rw [run_equalIn_string w d f.type _ _ hu]
        simp [ByteArray.toList_eq, Bool.beq_eq_decide_eq]
      · cases g3

theorem sizeB_uniq {t : TypeId} {n m : Nat} (h : sizeB P t n = true) (h' : sizeB P t m = true) : n = m := by
  unfold sizeB at *
  split at h
  · rename_i i hi
    rw [hi] at h'
    simp at h h'
    omega
  · cases h

theorem run_bld {t : TypeId} {z : List SV} {ps : List (Nat × Operand)} {qs : List (Nat × Nat × Od)} (hz : zeroB P t z = true) (hst : structB P t = true) (hp : partsB P t ps qs = true)
    (he : EnvR S e a.tmps) (hs : ∀ p ∈ qs, partOk p.2.1 (e.ev p.2.2) ∧ p.1 + p.2.1 ≤ z.length) :
    ∃ u, (Instr.build t (ps.map fun p => (p.1, a.eval p.2)).toArray).run P S.w = .ok u S.w ∧ VR S (.agg (fillS z (qs.map fun p => (p.1, e.ev p.2.2)))) u := by
  obtain ⟨hl, hq⟩ := partsB_spec hp he
  unfold zeroB at hz
  have hz0 := hz
  split at hz
  · rename_i it hit
    split at hz
    · rename_i zv hzv
      obtain ⟨zv', hrun, hvz, _⟩ := zeroB_spec (S := S) (P := P) (t := t) (z := z) (by unfold zeroB; exact hz0)
      have e1 : zv' = zv := by
        have := hrun S.w
        simp [zeroValue, typeInfo, hit, hzv] at this
        exact this.symm
      subst e1
      have fin : ∀ (place : Nat → Option (Nat × Nat)), (∀ (j : Nat) (p : Nat × Operand) (q : Nat × Nat × Od), ps[j]? = some p → qs[j]? = some q → place p.1 = some (q.1, q.2.1)) →
          ∃ cells, Instr.fill place zv'.cells (ps.map fun p => (p.1, a.eval p.2)) = some cells.toArray ∧ VRs S (fillS z (qs.map fun p => (p.1, e.ev p.2.2))) cells := by
        intro place hplace
        have := fill_sound (S := S) place (ps.map fun p => (p.1, a.eval p.2)) (qs.map fun p => (p.1, e.ev p.2.2)) z zv'.cells.toList hvz (by simp [hl]) (by
          intro j p q hpj hqj
          rw [List.getElem?_map] at hpj hqj
          cases hp0 : ps[j]? with
          | none => rw [hp0] at hpj; cases hpj
          | some p0 =>
            cases hq0 : qs[j]? with
            | none => rw [hq0] at hqj; cases hqj
            | some q0 =>
              rw [hp0] at hpj; rw [hq0] at hqj
              simp at hpj hqj
              subst hpj hqj
              obtain ⟨h1, h2⟩ := hs q0 (List.mem_of_getElem? hq0)
              exact ⟨q0.2.1, hplace j p0 q0 hp0 hq0, h1, h2, (hq j p0 q0 hp0 hq0).1⟩)
        simpa using this
      unfold structB at hst
      split at hst
      · rename_i fs hu
        obtain ⟨pl, h1, h2, h3⟩ := places_of fs.toList (by rw [List.all_eq_true] at hst; exact hst)
        obtain ⟨cells, hf, hv⟩ := fin (pl.toArray[·]?) (by
          intro j p q hpj hqj
          have h4 := (hq j p q hpj hqj).2
          rw [hu] at h4
          simp only at h4
          obtain ⟨fs', fd, hu', hfd, ho, hn⟩ := fieldB_spec h4
          rw [hu] at hu'; cases hu'
          obtain ⟨n, h5, h6⟩ := h3 p.1 fd (by simpa using hfd)
          have := sizeB_uniq h6 hn
          subst this
          simp [h5, ho])
        refine ⟨.agg cells.toArray, run_build S.w t _ _ ?_, VR.of_agg hv⟩
        simp only [Program.built, hit, hu, hzv, h1]
        exact hf
      · rename_i n el hu
        obtain ⟨ie, hie⟩ := Option.isSome_iff_exists.1 hst
        obtain ⟨cells, hf, hv⟩ := fin (fun i => some (i * ie.size, ie.size)) (by
          intro j p q hpj hqj
          have h4 := (hq j p q hpj hqj).2
          rw [hu] at h4
          simp only [Bool.and_eq_true, beq_iff_eq] at h4
          have : ie.size = q.2.1 := sizeB_uniq (P := P) (t := el) (by simp [sizeB, hie]) h4.2
          rw [this, h4.1])
        refine ⟨.agg cells.toArray, run_build S.w t _ _ ?_, VR.of_agg hv⟩
        simp only [Program.built, hit, hu, hzv, hie]
        exact hf
      · cases hst
    · cases hz
  · cases hz

end
end Go.Ab
