/-
  Steps of the proof: contracts of functions and plain facts that the statement rests on.
-/
import Derived.Test.YtoghpbjllompaaaPart1
set_option linter.all false
/- P16 -/
namespace Go.Proofs.Ytoghpbjllompaaa.Rc
open Go.Ab
section
variable {H : List AO} {t : Tb}
theorem loopC45_1 (h1 : 1 ≤ t.b) (h2 : t.b ≤ 30) {row : List Int} (hl : row.length ≤ 10) {e3 : SV} {N : Nat} {K : XE → Env → List AO → Prop}
    (hret : shE t.tot row = true → ∀ env, env.get 2 = i64 2 → K .ret env (H ++ [tbox t])) (hexit : shE t.tot row = false → ∀ env, env.get 1 = .ptr (.own H.length 0 0 0 0) 0 → env.get 3 = e3 → env.get 5 = i64 row.sum → K (.exit 2) env (H ++ [tbox t])) :
    ∀ (n i : Nat) (env : Env), i + n = row.length → shE t.tot (row.take i) = false → env.get 1 = .ptr (.own H.length 0 0 0 0) 0 → env.get 3 = e3 → env.get 4 = sl row → env.get 5 = i64 (row.take i).sum → env.get 6 = i64 i →
      LI Try.prog N drawB l45_1 env (H ++ [tbox t]) K := by
  have htot := tot_rng h1 h2
  intro n
  induction n with
  | zero =>
    intro i env hi hs g1 g3 g4 g5 g6
    refine li_go hm l45_1.eq_1 ?_
    have e : i = row.length := by omega
    subst e
    rw [List.take_length] at g5 hs
    simp -implicitDefEqProofs [g1, g3, g4, g5, g6, sl]
    refine hexit hs _ ?_ ?_ ?_ <;> simp [g1, g3, g5]
  | succ n ih =>
    intro i env hi hs g1 g3 g4 g5 g6
    refine li_go hm l45_1.eq_1 ?_
    have hlt : i < row.length := by omega
    have hsh := tot_shl h1 h2
    have ht := shE_take (tot := t.tot) hlt
    have hsum := shE_sum (by omega) hs
    have hm10 : t.tot * (row.take i).length ≤ 1073741824 * 10 := Int.mul_le_mul htot.2 (by simp; omega) (by omega) (by omega)
    have w1 : IntKind.i64.wrap ((i : Int) + 1) = ((i + 1 : Nat) : Int) := wrap_succ (by omega)
    simp -implicitDefEqProofs [g1, g3, g4, g5, g6, hlt, sl, tbox, hsh, pickI]
    by_cases c1 : row[i] < 0
    · have hbad : shE t.tot row = true := shE_le (i := i + 1) (by rw [ht]; simp [c1])
      simp -implicitDefEqProofs [c1]
      repeat (refine And.intro (by omega) ?_)
      exact hret hbad _ (by simp)
    · by_cases c2 : t.tot < row[i]
      · have hbad : shE t.tot row = true := shE_le (i := i + 1) (by rw [ht]; simp [c2])
        simp -implicitDefEqProofs [c1, c2]
        repeat (refine And.intro (by omega) ?_)
        exact hret hbad _ (by simp)
      · have w2 : IntKind.i64.wrap ((row.take i).sum + row[i]) = (row.take (i + 1)).sum := by
          rw [List.take_succ_eq_append_getElem hlt, List.sum_append]; simp only [List.sum_cons, List.sum_nil, Int.add_zero]
          exact wrap_id (by omega) (by omega)
        simp -implicitDefEqProofs [c1, c2, g1, g3, g4, g5, g6, hlt, sl, w1, w2]
        repeat (refine And.intro (by omega) ?_)
        refine ih (i + 1) _ (by omega) (by rw [ht, hs]; simp [c1, c2]) ?_ ?_ ?_ ?_ ?_ <;> simp [g1, g3, sl]
theorem loopC45_0 (h1 : 1 ≤ t.b) (h2 : t.b ≤ 30) (hl : t.r.length ≤ 200) {N : Nat} {K : XE → Env → List AO → Prop}
    (hret : ∀ env e, rowsE t.tot t.r = e → env.get 2 = i64 e → K .ret env (H ++ [tbox t])) (hexit : rowsE t.tot t.r = 0 → ∀ env, K (.exit 0) env (H ++ [tbox t])) :
    ∀ (n i : Nat) (env : Env), i + n = t.r.length → rowsE t.tot (t.r.take i) = 0 → env.get 1 = .ptr (.own H.length 0 0 0 0) 0 → env.get 3 = i64 i →
      LI Try.prog N drawB l45_0 env (H ++ [tbox t]) K := by
  have hsh := tot_shl h1 h2
  intro n
  induction n with
  | zero =>
    intro i env hi hs g1 g3
    refine li_go hm l45_0.eq_1 ?_
    have e : i = t.r.length := by omega
    subst e
    rw [List.take_length] at hs
    simp -implicitDefEqProofs [g1, g3, tbox]
    exact hexit hs _
  | succ n ih =>
    intro i env hi hs g1 g3
    refine li_go hm l45_0.eq_1 ?_
    have hlt : i < t.r.length := by omega
    have w1 : IntKind.i64.wrap ((i : Int) + 1) = ((i + 1 : Nat) : Int) := wrap_succ (by omega)
    have h3 := rowsE_snoc t.tot (t.r.take i) t.r[i] hs
    rw [← List.take_succ_eq_append_getElem hlt] at h3
    have hbad : rowE t.tot t.r[i] ≠ 0 → rowsE t.tot t.r = rowE t.tot t.r[i] := fun hz' => by
      have h4 := rowsE_le t.tot (t.r.take (i + 1)) (t.r.drop (i + 1)) (by rw [h3]; exact hz')
      rw [List.take_append_drop] at h4
      rw [h4, h3]
    simp -implicitDefEqProofs [g1, g3, tbox, hlt, rowsV_at hlt, rowsV_G, rowsV_len, sl, pickI]
    repeat (refine And.intro (by omega) ?_)
    have hstep := fun env hz => ih (i + 1) env (by omega) (hz : rowsE t.tot (t.r.take (i + 1)) = 0)
    rw [h3] at hstep
    generalize t.r[i] = row at *
    unfold rowE at hbad hstep
    by_cases c1 : row.length < 1
    · have c1' : (row.length : Int) < 1 := by omega
      rw [if_pos (.inl c1)] at hbad
      simp -implicitDefEqProofs [c1']
      exact hret _ 3 (hbad (by omega)) (by simp)
    · have c1' : ¬ (row.length : Int) < 1 := by omega
      by_cases c2 : 10 < row.length
      · have c2' : 10 < (row.length : Int) := by omega
        rw [if_pos (.inr c2)] at hbad
        simp -implicitDefEqProofs [c1', c2']
        exact hret _ 3 (hbad (by omega)) (by simp)
      · have c2' : ¬ 10 < (row.length : Int) := by omega
        have hor : ¬ (row.length < 1 ∨ 10 < row.length) := by omega
        rw [if_neg hor] at hbad hstep
        simp -implicitDefEqProofs [c1', c2']
        refine LI.cong (H' := H ++ [tbox t]) (by simp [tbox]) (loopC45_1 h1 h2 (row := row) (by omega) (e3 := i64 i) (fun hb env k2 => ?_) (fun hb env k1 k3 k5 => ?_) row.length 0 _ (by omega) rfl ?_ ?_ ?_ ?_ ?_)
        · rw [if_pos hb] at hbad
          simp -implicitDefEqProofs
          exact hret _ 2 (hbad (by omega)) (by simp [k2])
        · rw [if_neg (by simp [hb])] at hbad hstep
          simp -implicitDefEqProofs [k1, k3, k5, tbox, hsh, w1]
          refine And.intro (by omega) ?_
          by_cases c3 : row.sum = t.tot
          · simp -implicitDefEqProofs [c3, k1, k3, w1]
            exact hstep _ (by simp [c3]) (by simp [k1]) (by simp)
          · rw [if_pos c3] at hbad
            simp -implicitDefEqProofs [c3]
            exact hret _ 14 (hbad (by omega)) (by simp)
        all_goals simp [g1, g3, sl]
theorem ok45 : Ok Try.prog 45 [.agg t.cells] H (.ret (i64 t.err)) H := by
  refine ok_fn hm Try.func45 c45 (by simp [Tb.cells, rowsV_under]) fun hcl => ?_
  simp -implicitDefEqProofs [i45, r45, Tb.cells, pickI]
  unfold Tb.err
  by_cases hb : t.b < 1 ∨ 30 < t.b
  · rw [if_pos hb]
    by_cases c1 : t.b < 1
    · simp -implicitDefEqProofs [c1]
      exact cv_fz 1 hcl rfl (by simp)
    · have c2 : 30 < t.b := by omega
      simp -implicitDefEqProofs [c1, c2]
      exact cv_fz 1 hcl rfl (by simp)
  · rw [if_neg hb]
    have c1 : ¬ t.b < 1 := by omega
    have c2 : ¬ 30 < t.b := by omega
    by_cases hr : 200 < t.r.length
    · have hr' : 200 < (t.r.length : Int) := by omega
      simp -implicitDefEqProofs [c1, c2, hr, hr']
      exact cv_fz 1 hcl rfl (by simp)
    · have hr' : ¬ 200 < (t.r.length : Int) := by omega
      simp -implicitDefEqProofs [c1, c2, hr, hr']
      refine LI.cong (H' := H ++ [tbox t]) (by simp [tbox]) (loopC45_0 (by omega) (by omega) (by omega) (fun env e he k2 => ?_) (fun hz env => ?_) t.r.length 0 _ (by omega) rfl ?_ ?_)
      · simp -implicitDefEqProofs [k2]
        exact cv_fz 1 hcl rfl (by simp [c1, c2, hr, he])
      · simp -implicitDefEqProofs
        exact cv_fz 1 hcl rfl (by simp [c1, c2, hr, hz])
      all_goals simp
end
end Go.Proofs.Ytoghpbjllompaaa.Rc

/- P17 -/
namespace Go.Proofs.Ytoghpbjllompaaa.Rc
open Go.Ab
def rowB (row : List Int) : List Int := u8w row.length :: row.flatMap putB
def Tb.byt (t : Tb) : List Int := headB 84 t.b t.r.length ++ t.r.flatMap rowB
theorem rowE_ok {tot : Int} {row : List Int} (h : rowE tot row = 0) : 1 ≤ row.length ∧ row.length ≤ 10 ∧ shE tot row = false ∧ row.sum = tot := by
  unfold rowE at h
  split at h
  · cases h
  · split at h
    · cases h
    · rename_i h2
      split at h
      · cases h
      · rename_i h3
        exact ⟨by omega, by omega, by simpa using h2, Classical.byContradiction h3⟩
theorem shE_mem {tot : Int} : ∀ {l : List Int}, shE tot l = false → ∀ s ∈ l, 0 ≤ s ∧ s ≤ tot
  | [], _, s, hs => by simp at hs
  | x :: l, h, s, hs => by
    simp only [shE, Bool.or_eq_false_iff, decide_eq_false_iff_not] at h
    rcases List.mem_cons.1 hs with rfl | hs
    · omega
    · exact shE_mem h.2 s hs
theorem rowsE_mem {tot : Int} : ∀ {l : List (List Int)}, rowsE tot l = 0 → ∀ r ∈ l, rowE tot r = 0
  | [], _, s, hs => by simp at hs
  | x :: l, h, s, hs => by
    simp only [rowsE] at h
    by_cases hx : rowE tot x = 0
    · rw [if_neg (by omega)] at h
      rcases List.mem_cons.1 hs with rfl | hs
      · exact hx
      · exact rowsE_mem h s hs
    · rw [if_pos hx] at h; omega
/-- What is known of a table without a fault. -/
structure Td (t : Tb) : Prop where
  b1 : 1 ≤ t.b
  b2 : t.b ≤ 30
  n : t.r.length ≤ 200
  r : ∀ r ∈ t.r, 1 ≤ r.length ∧ r.length ≤ 10 ∧ ∀ s ∈ r, 0 ≤ s ∧ s ≤ 1073741824
theorem Td.of {t : Tb} (h : t.err = 0) : Td t := by
  unfold Tb.err at h
  split at h
  · cases h
  · split at h
    · cases h
    · have htot := tot_rng (t := t) (by omega) (by omega)
      refine ⟨by omega, by omega, by omega, fun r hr => ?_⟩
      obtain ⟨a, b, c, d⟩ := rowE_ok (rowsE_mem h r hr)
      exact ⟨a, b, fun s hs => by have := shE_mem c s hs; omega⟩
theorem rowB_len {row : List Int} (h : row.length ≤ 10) : (rowB row).length ≤ 101 := by
  have := fm_len (f := putB) (b := 10) (l := row) fun y _ => (putB_len y).2
  simp only [rowB, List.length_cons]; omega
theorem Tb.byt_len {t : Tb} (h : Td t) : t.byt.length < 10000000 := by
  have h1 := headB_len 84 t.b t.r.length
  have h2 := fm_len (f := rowB) (b := 101) (l := t.r) fun y hy => rowB_len (h.r y hy).2.1
  have h3 := h.n
  simp only [Tb.byt, List.length_append]; omega
theorem Tb.byt_oct {t : Tb} (h : Td t) : Oct t.byt := by
  have h5 := h.n
  refine Oct.app (Oct.app ?_ (Oct.put (by omega) (by omega))) (Oct.fm fun y hy => ?_)
  · exact Oct.cons (by omega) (Oct.cons (by omega) (Oct.cons (by omega) (Oct.cons (u8w_rng _) Oct.nil)))
  · exact Oct.cons (u8w_rng _) (Oct.fm fun s hs => by have := (h.r y hy).2.2 s hs; exact Oct.put (by omega) (by omega))
def tabR (t : Tb) : List Int × Int := if t.err ≠ 0 then ([], t.err) else (sealB t.byt, 0)
section
variable {A H : List AO} {t : Tb}
theorem loopC13_1 {ws R : List Int} (hw : ∀ w ∈ ws, 0 ≤ w ∧ w < 9223372036854775808) (hwl : ws.length ≤ 100000) (hR : R.length < 10000000000) {e31 e32 e33 : SV} {N : Nat} {K : XE → Env → List AO → Prop}
    (hexit : ∀ env v M, env.get 6 = .own A.length 0 R.length 1 v → env.get 31 = e31 → env.get 32 = e32 → env.get 33 = e33 → K (.exit 2) env (A ++ rwB 5 v R :: M)) :
    ∀ (n i : Nat) (l : List Int) (v : Nat) (env : Env) (M : List AO), i + n = ws.length → l ++ (ws.drop i).flatMap putB = R → env.get 6 = .own A.length 0 l.length 1 v → env.get 31 = e31 → env.get 32 = e32 → env.get 33 = e33 →
      env.get 43 = sl ws → env.get 44 = i64 ws.length → env.get 45 = i64 i → LI Try.prog N drawB l13_1 env (A ++ rwB 5 v l :: M) K := by
  intro n
  induction n with
  | zero =>
    intro i l v env M hi hr h6 h31 h32 h33 h43 h44 h45
    refine li_go hm l13_1.eq_1 ?_
    have e : i = ws.length := by omega
    subst e
    have hr : l = R := by simpa using hr
    subst hr
    simp -implicitDefEqProofs [h6, h31, h32, h33, h43, h44, h45]
    refine hexit _ v M ?_ ?_ ?_ ?_ <;> simp [h6, h31, h32, h33]
  | succ n ih =>
    intro i l v env M hi hr h6 h31 h32 h33 h43 h44 h45
    refine li_go hm l13_1.eq_1 ?_
    have hlt : i < ws.length := by omega
    have hwi := hw _ (List.getElem_mem hlt)
    rw [List.drop_eq_getElem_cons hlt, List.flatMap_cons, ← List.append_assoc] at hr
    have hll : (l ++ putB ws[i]).length ≤ R.length := by rw [← hr]; simp
    have hll2 : l.length ≤ R.length := by rw [List.length_append] at hll; omega
    have w1 : IntKind.i64.wrap ((i : Int) + 1) = ((i + 1 : Nat) : Int) := wrap_succ (by omega)
    have h38 := ok38 (H := A ++ rwB 5 v l :: M) (j := A.length) (v := v) (l := l) (by simp) (by omega) hwi.1 hwi.2
    simp -implicitDefEqProofs [h6, h31, h32, h33, h43, h44, h45, hlt, sl]
    repeat (refine And.intro (by omega) ?_)
    refine call_go h38 ?_
    simp -implicitDefEqProofs [h6, h31, h32, h33, h43, h44, h45, hlt, sl, w1]
    refine LI.cong (by simp [set_app0]) (ih (i + 1) (l ++ putB ws[i]) (v + (putB ws[i]).length) _ M (by omega) hr ?_ ?_ ?_ ?_ ?_ ?_ ?_) <;> simp [h31, h32, h33, h43, h44, sl, w1]
theorem loopC13_0 (ht : Td t) {R : List Int} (hR : R.length < 10000000000) {N : Nat} {K : XE → Env → List AO → Prop}
    (hexit : ∀ env v M, env.get 6 = .own A.length 0 R.length 1 v → K (.exit 0) env (A ++ rwB 5 v R :: M)) :
    ∀ (n i : Nat) (l : List Int) (v : Nat) (env : Env) (M : List AO), i + n = t.r.length → l ++ (t.r.drop i).flatMap rowB = R → env.get 6 = .own A.length 0 l.length 1 v → env.get 31 = .slc (rowsV t.r) t.r.length → env.get 32 = i64 t.r.length → env.get 33 = i64 i →
      LI Try.prog N drawB l13_0 env (A ++ rwB 5 v l :: M) K := by
  have htn := ht.n
  intro n
  induction n with
  | zero =>
    intro i l v env M hi hr h6 h31 h32 h33
    refine li_go hm l13_0.eq_1 ?_
    have e : i = t.r.length := by omega
    subst e
    have hr : l = R := by simpa using hr
    subst hr
    simp -implicitDefEqProofs [h6, h31, h32, h33]
    refine hexit _ v M ?_ <;> simp [h6]
  | succ n ih =>
    intro i l v env M hi hr h6 h31 h32 h33
    refine li_go hm l13_0.eq_1 ?_
    have hlt : i < t.r.length := by omega
    have hrow := ht.r _ (List.getElem_mem hlt)
    rw [List.drop_eq_getElem_cons hlt, List.flatMap_cons, ← List.append_assoc] at hr
    have hll : (l ++ rowB t.r[i]).length ≤ R.length := by rw [← hr]; simp
    have w1 : IntKind.i64.wrap ((i : Int) + 1) = ((i + 1 : Nat) : Int) := wrap_succ (by omega)
    simp -implicitDefEqProofs [h6, h31, h32, h33, hlt, rowsV_at hlt, rowsV_G, rowsV_len, sl, u8w_eq, rwB]
    generalize t.r[i] = row at *
    have hll2 : l.length + (rowB row).length ≤ R.length := by rw [List.length_append] at hll; omega
    have hll3 : 1 ≤ (rowB row).length := by simp [rowB]
    repeat (refine And.intro (by omega) ?_)
    refine LI.cong (by simp [rwB, byts]) (loopC13_1 (A := A) (ws := row) (R := l ++ rowB row) (fun w hw => by have := hrow.2.2 w hw; omega) (by omega) (by omega) (e31 := .slc (rowsV t.r) t.r.length) (e32 := i64 t.r.length) (e33 := i64 i) (fun env v M k6 k31 k32 k33 => ?_)
      row.length 0 (l ++ [u8w row.length]) (v + 1) _ (M ++ [⟨[u8 (u8w row.length)], 5, 0, true⟩]) (by omega) (by simp [rowB]) ?_ ?_ ?_ ?_ ?_ ?_ ?_)
    · simp -implicitDefEqProofs [k6, k31, k32, k33, w1]
      refine ih (i + 1) _ v _ M (by omega) hr ?_ ?_ ?_ ?_ <;> simp [k6, k31, k32]
    all_goals simp [h31, h32, h33, sl]
theorem ok13 (hs : ∀ i (h : i < t.r.length), t.r[i].length < 9223372036854775808) : Ok Try.prog 13 [.agg t.cells] H (.ret (bl2 (tabR t))) H := by
  refine ok_fn hm Try.func13 c13 (by simp [Tb.cells, rowsV_under]) fun hcl => ?_
  have hh := fun H => ok44 (H := H) (t := t) hs
  simp only [Tb.cells] at hh
  simp -implicitDefEqProofs [i13, r13, Tb.cells]
  refine call_go (hh _) ?_
  unfold tabR
  by_cases hf : t.err = 0
  · have ht := Td.of hf
    have hn := ht.n
    have hbl := Tb.byt_len ht
    have hbo := Tb.byt_oct ht
    have hpl := putB_len t.r.length
    simp -implicitDefEqProofs [hf]
    refine call_go (ok37 84) ?_
    simp -implicitDefEqProofs [u8w_eq]
    have h38 := ok38 (H := H ++ tbox t :: hdO 84 :: rwB 5 2 [80, 84, 1, u8w t.b] :: [⟨[u8 (u8w t.b)], 5, 0, true⟩]) (j := H.length + 2) (v := 2) (l := [80, 84, 1, u8w t.b]) (by simp) (by simp) (n := t.r.length) (by omega) (by omega)
    refine call_go (Ok.cast (by simp) (by simp [rwB, byts, tbox, hdO]) rfl rfl h38) ?_
    simp -implicitDefEqProofs [tbox]
    refine LI.cong (H' := (H ++ [tbox t, hdO 84]) ++ rwB 5 (2 + (putB t.r.length).length) (headB 84 t.b t.r.length) :: [⟨[u8 (u8w t.b)], 5, 0, true⟩]) ?_ (loopC13_0 (A := H ++ [tbox t, hdO 84]) ht (R := t.byt) (by omega) (fun env v M k6 => ?_) t.r.length 0 (headB 84 t.b t.r.length) (2 + (putB t.r.length).length) _ [⟨[u8 (u8w t.b)], 5, 0, true⟩] (by omega) (by simp [Tb.byt]) ?_ ?_ ?_ ?_)
    · simp [tbox, headB]
    · simp -implicitDefEqProofs [k6]
      have h40 := ok40 (A := H ++ [tbox t, hdO 84]) (l := t.byt) (v := v) (M := M) hbo (by omega)
      refine call_go (Ok.cast (by simp) (by simp) rfl rfl h40) ?_
      simp -implicitDefEqProofs
      refine cv_fz 3 hcl rfl ?_
      simp [hf, bl2, rwB]
    all_goals simp [headB]
  · simp -implicitDefEqProofs [hf]
    refine Cv.le (cv_fz 4 hcl rfl rfl) ?_
    simp [hf, bl2, byts]
    exact le_tup (leL.cons le_nil (leL.cons (SV.le.refl _) leL.nil))
end
end Go.Proofs.Ytoghpbjllompaaa.Rc

/- P18 -/
namespace Go.Proofs.Ytoghpbjllompaaa.Rc
open Go.Ab Go.WideShapes
section
variable {H : List AO} {t : Tb}
theorem loopC14_1 (hn : t.r.length ≤ 200) {k : Nat} (hk : k < t.r.length) {ws R : List Int} (hws : t.r[k] = ws) (hw : ∀ w ∈ ws, 0 ≤ w ∧ w < 9223372036854775808) (hwl : ws.length ≤ 100000) (hR : R.length < 10000000000) {M : List AO} {N : Nat} {K : XE → Env → List AO → Prop}
    (hexit : ∀ env v, env.get 5 = .own (H.length + 1) 0 R.length 1 v → env.get 1 = .ptr (.own H.length 0 0 0 0) 0 → env.get 6 = i64 k → K (.exit 2) env (H ++ tbox t :: rwB 5 v R :: M)) :
    ∀ (n i : Nat) (l : List Int) (v : Nat) (env : Env), i + n = ws.length → l ++ (ws.drop i).flatMap putB = R → env.get 5 = .own (H.length + 1) 0 l.length 1 v → env.get 1 = .ptr (.own H.length 0 0 0 0) 0 → env.get 6 = i64 k →
      env.get 7 = i64 i → LI Try.prog N drawB l14_1 env (H ++ tbox t :: rwB 5 v l :: M) K := by
  intro n
  induction n with
  | zero =>
    intro i l v env hi hr h5 h1 h6 h7
    refine li_go hm l14_1.eq_1 ?_
    have e : i = ws.length := by omega
    subst e
    have hr : l = R := by simpa using hr
    subst hr
    simp -implicitDefEqProofs [h5, h1, h6, h7, tbox, hk, rowsV_at hk, rowsV_G, rowsV_len, sl, hws]
    repeat (refine And.intro (by omega) ?_)
    refine hexit _ v ?_ ?_ ?_ <;> simp [h5, h1, h6]
  | succ n ih =>
    intro i l v env hi hr h5 h1 h6 h7
    refine li_go hm l14_1.eq_1 ?_
    have hlt : i < ws.length := by omega
    have hwi := hw _ (List.getElem_mem hlt)
    rw [List.drop_eq_getElem_cons hlt, List.flatMap_cons, ← List.append_assoc] at hr
    have hll : (l ++ putB ws[i]).length ≤ R.length := by rw [← hr]; simp
    have hll2 : l.length + (putB ws[i]).length ≤ R.length := by rw [List.length_append] at hll; omega
    have w1 : IntKind.i64.wrap ((i : Int) + 1) = ((i + 1 : Nat) : Int) := wrap_succ (by omega)
    simp -implicitDefEqProofs [h5, h1, h6, h7, tbox, hk, rowsV_at hk, rowsV_G, rowsV_len, sl, hws, hlt]
    repeat (refine And.intro (by omega) ?_)
    refine call_go (ok42 hwi.1 hwi.2) ?_
    simp -implicitDefEqProofs [h5, h1, h6, h7, hlt, rwB, w1]
    repeat (refine And.intro (by omega) ?_)
    refine LI.cong (by simp [rwB, byts, tbox]) (ih (i + 1) (l ++ putB ws[i]) (v + 1) _ (by omega) hr ?_ ?_ ?_ ?_) <;> simp [h1, h6, w1]
theorem loopC14_0 (ht : Td t) {R : List Int} (hR : R.length < 10000000000) {N : Nat} {K : XE → Env → List AO → Prop}
    (hexit : ∀ env v M, env.get 5 = .own (H.length + 1) 0 R.length 1 v → K (.exit 0) env (H ++ tbox t :: rwB 5 v R :: M)) :
    ∀ (n i : Nat) (l : List Int) (v : Nat) (env : Env) (M : List AO), i + n = t.r.length → l ++ (t.r.drop i).flatMap rowB = R → env.get 5 = .own (H.length + 1) 0 l.length 1 v → env.get 1 = .ptr (.own H.length 0 0 0 0) 0 → env.get 6 = i64 i →
      LI Try.prog N drawB l14_0 env (H ++ tbox t :: rwB 5 v l :: M) K := by
  have htn := ht.n
  intro n
  induction n with
  | zero =>
    intro i l v env M hi hr h5 h1 h6
    refine li_go hm l14_0.eq_1 ?_
    have e : i = t.r.length := by omega
    subst e
    have hr : l = R := by simpa using hr
    subst hr
    simp -implicitDefEqProofs [h5, h1, h6, tbox]
    refine hexit _ v M ?_ <;> simp [h5]
  | succ n ih =>
    intro i l v env M hi hr h5 h1 h6
    refine li_go hm l14_0.eq_1 ?_
    have hlt : i < t.r.length := by omega
    have hrow := ht.r _ (List.getElem_mem hlt)
    rw [List.drop_eq_getElem_cons hlt, List.flatMap_cons, ← List.append_assoc] at hr
    have hll : (l ++ rowB t.r[i]).length ≤ R.length := by rw [← hr]; simp
    have w1 : IntKind.i64.wrap ((i : Int) + 1) = ((i + 1 : Nat) : Int) := wrap_succ (by omega)
    have hC := fun (ws : List Int) (hws : t.r[i] = ws) (N : Nat) (K : XE → Env → List AO → Prop) (M : List AO) (R : List Int) => loopC14_1 (H := H) htn hlt (ws := ws) (R := R) hws (N := N) (K := K) (M := M)
    simp -implicitDefEqProofs [h5, h1, h6, hlt, rowsV_at hlt, rowsV_G, rowsV_len, sl, u8w_eq, rwB, tbox]
    obtain ⟨row, hrw⟩ : ∃ row, t.r[i] = row := ⟨_, rfl⟩
    rw [hrw] at hrow hll hr ⊢
    have hll2 : l.length + (rowB row).length ≤ R.length := by rw [List.length_append] at hll; omega
    have hll3 : 1 ≤ (rowB row).length := by simp [rowB]
    repeat (refine And.intro (by omega) ?_)
    refine LI.cong (by simp [rwB, byts, tbox]) (hC row hrw _ _ (M ++ [⟨[u8 (u8w row.length)], 5, 0, true⟩]) (l ++ rowB row) (fun w hw => by have := hrow.2.2 w hw; omega) (by omega) (by rw [List.length_append]; omega) (fun env v k5 k1 k6 => ?_)
      row.length 0 (l ++ [u8w row.length]) (v + 1) _ (by omega) (by simp [rowB]) ?_ ?_ ?_ ?_)
    · simp -implicitDefEqProofs [k5, k1, k6, w1]
      refine ih (i + 1) _ v _ _ (by omega) hr ?_ ?_ ?_ <;> simp [k5, k1]
    all_goals simp [h1, h6]
theorem ok14 : Ok Try.prog 14 [.agg t.cells] H (.ret (bl2 (tabR t))) H := by
  refine ok_fn hm Try.func14 c14 (by simp [Tb.cells, rowsV_under]) fun hcl => ?_
  have hh := fun H => ok45 (H := H) (t := t)
  simp only [Tb.cells] at hh
  simp -implicitDefEqProofs [i14, r14, Tb.cells]
  refine call_go (hh _) ?_
  unfold tabR
  by_cases hf : t.err = 0
  · have ht := Td.of hf
    have hn := ht.n
    have hbl := Tb.byt_len ht
    have hbo := Tb.byt_oct ht
    have hpl := putB_len t.r.length
    simp -implicitDefEqProofs [hf, u8w_eq]
    refine callq_go (fun _ => ok42 (n := t.r.length) (by omega) (by omega)) ?_
    simp -implicitDefEqProofs [u8w_eq]
    refine ⟨okC_go (ok42 (by omega) (by omega)), by omega, ?_⟩
    refine LI.cong (H' := H ++ tbox t :: rwB 5 1 (headB 84 t.b t.r.length) :: []) ?_ (loopC14_0 ht (R := t.byt) (by omega) (fun env v M k5 => ?_) t.r.length 0 (headB 84 t.b t.r.length) 1 _ [] (by omega) (by simp [Tb.byt]) ?_ ?_ ?_)
    · simp [tbox, headB, rwB, byts]
    · simp -implicitDefEqProofs [k5]
      have h43 := ok43 (A := H ++ [tbox t]) (l := t.byt) (v := v) (M := M) hbo (by omega)
      refine call_go (Ok.cast (by simp) (by simp) rfl rfl h43) ?_
      simp -implicitDefEqProofs
      refine cv_fz 3 hcl rfl ?_
      simp [hf, bl2, rwB]
    all_goals first | (simp [headB]; done) | (simp [headB]; omega)
  · simp -implicitDefEqProofs [hf]
    refine Cv.le (cv_fz 4 hcl rfl rfl) ?_
    simp [hf, bl2, byts]
    exact le_tup (leL.cons le_nil (leL.cons (SV.le.refl _) leL.nil))
end
end Go.Proofs.Ytoghpbjllompaaa.Rc

/- Q17 -/
namespace Go.Proofs.Ytoghpbjllompaaa.Rc
open Go.Ab
theorem has_nd0 {d : Dt} (h : shNd.has d) : ∃ x : Nd, d.cells = x.cells := by
  obtain ⟨m, rfl, hm⟩ := has_st h
  obtain ⟨d0, m, rfl, h0, hm⟩ := hasL_cons hm
  obtain ⟨d1, m, rfl, h1, hm⟩ := hasL_cons hm
  obtain ⟨d2, m, rfl, h2, hm⟩ := hasL_cons hm
  obtain ⟨d3, m, rfl, h3, hm⟩ := hasL_cons hm
  obtain ⟨d4, m, rfl, h4, hm⟩ := hasL_cons hm
  obtain ⟨d5, m, rfl, h5, hm⟩ := hasL_cons hm
  obtain rfl := hasL_nil hm
  obtain ⟨n0, e0, _⟩ := has_i64 h0
  obtain ⟨n1, e1, _⟩ := has_i64 h1
  obtain ⟨n2, e2, _⟩ := has_i64 h2
  obtain ⟨l3, e3, _⟩ := has_ints h3
  obtain ⟨l4, e4, _⟩ := has_ints h4
  obtain ⟨l5, e5, _⟩ := has_ints h5
  exact ⟨⟨n0, n1, n2, l3, l4, l5⟩, by simp [cells_agg, Dt.cellsL, e0, e1, e2, e3, e4, e5, Nd.cells, sl]⟩
theorem has_nds0 {d : Dt} (h : (Sh.sl shNd).has d) : ∃ l : List Nd, d.cells = [.slc (nds l) l.length] := by
  simp only [Sh.has] at h
  obtain ⟨m, rfl, hl, hx⟩ := h
  have : ∃ l : List Nd, l.length = m.length ∧ Dt.cellsL m = nds l := by
    clear hl
    induction m with
    | nil => exact ⟨[], rfl, rfl⟩
    | cons x r ih =>
      obtain ⟨l, h1, h2⟩ := ih fun y hy => hx y (by simp [hy])
      obtain ⟨n, hn⟩ := has_nd0 (hx x (by simp))
      exact ⟨n :: l, by simp [h1], by simp [Dt.cellsL, hn, h2, nds]⟩
  obtain ⟨l, h1, h2⟩ := this
  exact ⟨l, by simp only [Dt.cells, h2, ← h1]⟩
theorem has_infs0 {d : Dt} (h : (Sh.sl shIn).has d) : ∃ l : List (Int × Int), d.cells = [.slc (infs l) l.length] := by
  simp only [Sh.has] at h
  obtain ⟨m, rfl, hl, hx⟩ := h
  have : ∃ l : List (Int × Int), l.length = m.length ∧ Dt.cellsL m = infs l := by
    clear hl
    induction m with
    | nil => exact ⟨[], rfl, rfl⟩
    | cons x r ih =>
      obtain ⟨l, h1, h2⟩ := ih fun y hy => hx y (by simp [hy])
      obtain ⟨m, rfl, hm⟩ := has_st (hx x (by simp))
      obtain ⟨d0, m, rfl, h0, hm⟩ := hasL_cons hm
      obtain ⟨d1, m, rfl, g1, hm⟩ := hasL_cons hm
      obtain rfl := hasL_nil hm
      obtain ⟨n0, e0, _⟩ := has_i64 h0
      obtain ⟨n1, e1, _⟩ := has_i64 g1
      exact ⟨(n0, n1) :: l, by simp [h1], by simp [Dt.cellsL, cells_agg, e0, e1, h2, infs]⟩
  obtain ⟨l, h1, h2⟩ := this
  exact ⟨l, by simp only [Dt.cells, h2, ← h1]⟩
/-- A game that came in. -/
theorem has_gm0 {d : Dt} (h : shGm.has d) : ∃ g : Gm, d.sv = .agg g.cells := by
  obtain ⟨m, rfl, hm⟩ := has_st h
  obtain ⟨d0, m, rfl, h0, hm⟩ := hasL_cons hm
  obtain ⟨d1, m, rfl, h1, hm⟩ := hasL_cons hm
  obtain ⟨d2, m, rfl, h2, hm⟩ := hasL_cons hm
  obtain rfl := hasL_nil hm
  obtain ⟨n0, e0, _⟩ := has_i64 h0
  obtain ⟨l1, e1⟩ := has_nds0 h1
  obtain ⟨l2, e2⟩ := has_infs0 h2
  exact ⟨⟨n0, l1, l2⟩, by simp [sv_agg, Dt.cellsL, e0, e1, e2, Gm.cells]⟩
end Go.Proofs.Ytoghpbjllompaaa.Rc

/- P19 -/
namespace Go.Proofs.Ytoghpbjllompaaa.Rc
open Go.Ab Go.WideShapes
section
variable {H : List AO} {t : Tb} {g : Gm}
theorem gameR_len (g : Gm) : (gameR g).1.length < 4611686018427387904 := by
  unfold gameR
  split
  · simp
  · rename_i h
    have := Gm.byt_len (form0 (g := g) (Classical.byContradiction h)).1
    rw [sealB_len]; omega
theorem tabR_len (t : Tb) : (tabR t).1.length < 4611686018427387904 := by
  unfold tabR
  split
  · simp
  · rename_i h
    have := Tb.byt_len (Td.of (t := t) (Classical.byContradiction h))
    rw [sealB_len]; omega
theorem loopC3_0 (hn : t.r.length ≤ 205) (hs : ∀ i (h : i < t.r.length), t.r[i].length < 9223372036854775808) {N : Nat} {K : XE → Env → List AO → Prop}
    (hret : ∀ env, env.get 4 = bl true → K .ret env (H ++ [gbox g, tbox t])) (hexit : ∀ env, env.get 2 = .ptr (.own H.length 0 0 0 0) 0 → env.get 3 = .ptr (.own (H.length + 1) 0 0 0 0) 0 → K (.exit 0) env (H ++ [gbox g, tbox t])) :
    ∀ (n i : Nat) (env : Env), i + n = t.r.length → env.get 2 = .ptr (.own H.length 0 0 0 0) 0 → env.get 3 = .ptr (.own (H.length + 1) 0 0 0 0) 0 → env.get 5 = i64 i → LI Try.prog N drawB l3_0 env (H ++ [gbox g, tbox t]) K := by
  intro n
  induction n with
  | zero =>
    intro i env hi h2 h3 h5
    refine li_go hm l3_0.eq_1 ?_
    have e : i = t.r.length := by omega
    subst e
    simp -implicitDefEqProofs [h2, h3, h5, tbox]
    exact hexit _ (by simp [h2]) (by simp [h3])
  | succ n ih =>
    intro i env hi h2 h3 h5
    refine li_go hm l3_0.eq_1 ?_
    have hlt : i < t.r.length := by omega
    have hsi := hs i hlt
    have w1 : IntKind.i64.wrap ((i : Int) + 1) = ((i + 1 : Nat) : Int) := wrap_succ (by omega)
    simp -implicitDefEqProofs [h2, h3, h5, hlt, rowsV_at hlt, rowsV_G, rowsV_len, sl, tbox]
    repeat (refine And.intro (by omega) ?_)
    by_cases c : 20 < (t.r[i].length : Int)
    · simp -implicitDefEqProofs [c]
      refine call_go awake_ok ?_
      simp -implicitDefEqProofs
      exact hret _ (by simp)
    · simp -implicitDefEqProofs [c, w1]
      refine ih (i + 1) _ (by omega) ?_ ?_ ?_ <;> simp [h2, h3]
theorem ok3 (hs : ∀ i (h : i < t.r.length), t.r[i].length < 9223372036854775808) : Ok Try.prog 3 [.agg g.cells, .agg t.cells] H (.ret (bl true)) H := by
  refine ok_fn hm Try.func3 c3 (by simp [Tb.cells, rowsV_under, Gm.cells, nds_under, infs_under]) fun hcl => ?_
  simp -implicitDefEqProofs [i3, r3, Gm.cells, Tb.cells, pickI]
  refine And.intro (by omega) (And.intro (by omega) ?_)
  by_cases hL : (60 < (g.ns.length : Int) ∧ (g.ns.length : Int) ≤ 2000 ∨ 2010 < (g.ns.length : Int)) ∨ 205 < (t.r.length : Int)
  · rw [if_pos hL]
    refine call_go awake_ok ?_
    simp -implicitDefEqProofs
    exact cv_fz 1 hcl rfl (by simp)
  · rw [if_neg hL]
    simp -implicitDefEqProofs
    refine LI.cong (H' := H ++ [gbox g, tbox t]) (by simp [gbox, tbox]) (loopC3_0 (g := g) (by omega) hs (fun env k4 => ?_) (fun env k2 k3 => ?_) t.r.length 0 _ (by omega) ?_ ?_ ?_)
    · simp -implicitDefEqProofs [k4]
      exact cv_fz 1 hcl rfl (by simp)
    · have h11 := fun H => ok11 (H := H) (g := g)
      have h12 := fun H => ok12 (H := H) (g := g)
      have h13 := fun H => ok13 (H := H) (t := t) hs
      have h14 := fun H => ok14 (H := H) (t := t)
      have l1 := gameR_len g
      have l2 := tabR_len t
      generalize gameR g = p at h11 h12 l1
      generalize tabR t = q at h13 h14 l2
      obtain ⟨p1, p2⟩ := p
      obtain ⟨q1, q2⟩ := q
      simp only [Gm.cells, Tb.cells, bl2] at h11 h12 h13 h14 l1 l2
      simp -implicitDefEqProofs [k2, k3, gbox, tbox]
      refine call_go (h11 _) ?_
      simp -implicitDefEqProofs [k2, k3]
      refine call_go (h12 _) ?_
      simp -implicitDefEqProofs [k2, k3]
      refine call_go (h13 _) ?_
      simp -implicitDefEqProofs [k2, k3]
      refine call_go (h14 _) ?_
      simp -implicitDefEqProofs [k2, k3]
      refine call_go (ok15s (l := p1) (IsB.slc _ _) (IsB.slc _ _) l1) ?_
      simp -implicitDefEqProofs
      refine callq_st (r := bl true) (fun _ => by simp only [List.map_cons, List.map_nil, SV.strip]; exact ok15s (IsB.slc _ _) (IsB.slc _ _) l2) ?_
      simp -implicitDefEqProofs
      refine callq_go (fun _ => awake_ok) ?_
      simp -implicitDefEqProofs
      exact cv_fz 1 hcl rfl (by simp)
    all_goals simp
end
def shTb : Sh := .st [.int .i64, .sl (.sl (.int .i64))]
theorem has_rows {d : Dt} (h : (Sh.sl (.sl (.int .i64))).has d) : ∃ l : List (List Int), d.cells = [.slc (rowsV l) l.length] ∧ ∀ r ∈ l, r.length ≤ maxLen := by
  simp only [Sh.has] at h
  obtain ⟨m, rfl, hl, hx⟩ := h
  have : ∃ l : List (List Int), l.length = m.length ∧ Dt.cellsL m = rowsV l ∧ ∀ r ∈ l, r.length ≤ maxLen := by
    clear hl
    induction m with
    | nil => exact ⟨[], rfl, rfl, by simp⟩
    | cons x r ih =>
      obtain ⟨l, h1, h2, h3⟩ := ih fun y hy => hx y (by simp [hy])
      obtain ⟨n, e, _, b, _⟩ := has_ints (d := x) (by simp only [Sh.has]; exact hx x (by simp))
      refine ⟨n :: l, by simp [h1], by simp [Dt.cellsL, e, h2, rowsV, sl], fun y hy => ?_⟩
      rcases List.mem_cons.1 hy with rfl | hy
      · exact b
      · exact h3 y hy
  obtain ⟨l, h1, h2, h3⟩ := this
  exact ⟨l, by simp only [Dt.cells, h2, ← h1], h3⟩
theorem has_tb {d : Dt} (h : shTb.has d) : ∃ t : Tb, d.sv = .agg t.cells ∧ ∀ i (h : i < t.r.length), t.r[i].length < 9223372036854775808 := by
  obtain ⟨m, rfl, hm⟩ := has_st h
  obtain ⟨d0, m, rfl, h0, hm⟩ := hasL_cons hm
  obtain ⟨d1, m, rfl, h1, hm⟩ := hasL_cons hm
  obtain rfl := hasL_nil hm
  obtain ⟨n0, e0, _⟩ := has_i64 h0
  obtain ⟨l1, e1, b1⟩ := has_rows h1
  refine ⟨⟨n0, l1⟩, by simp [sv_agg, Dt.cellsL, e0, e1, Tb.cells], fun i h => ?_⟩
  have := b1 _ (List.getElem_mem h)
  have e : maxLen = 9223372036854775807 := rfl
  rw [e] at this
  omega
end Go.Proofs.Ytoghpbjllompaaa.Rc

