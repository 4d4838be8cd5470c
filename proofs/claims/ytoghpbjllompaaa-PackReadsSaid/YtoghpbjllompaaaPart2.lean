/-
  Steps of the proof: contracts of functions and plain facts that the statement rests on.
-/
import Derived.Test.YtoghpbjllompaaaPart1
set_option linter.all false
/- P15 -/
namespace Go.Proofs.Ytoghpbjllompaaa.Rc
open Go.Ab
section
variable {H : List AO} {t : Tb}
theorem rowsV_at {l : List (List Int)} {k : Nat} (h : k < l.length) : (rowsV l)[k]? = some (sl l[k]) := by simp [rowsV, h]
theorem rowsV_G {l : List (List Int)} {k : Nat} (h : k < (rowsV l).length) : (rowsV l)[k] = sl (l[k]'(by simpa [rowsV] using h)) := by simp [rowsV]
theorem rowsV_len (l : List (List Int)) : (rowsV l).length = l.length := by simp [rowsV]
theorem rowsV_under (n : Nat) (l : List (List Int)) : SV.underL n (rowsV l) = true := by
  rw [SV.underL_iff]
  intro x hx
  obtain ⟨r, _, rfl⟩ := List.mem_map.1 hx
  simp [sl]
theorem loopT82 {J : Nat → List AO → Prop} {E : List AO → Prop} {n : Nat} {rs : List (List Int)} (hl : rs.length ≤ 200)
    (hy : ∀ i (h : i < rs.length) H, J i H → YlP Try.prog n [sl rs[i]] H fun o H' => (o = .ret (bl true) ∧ J (i + 1) H') ∨ (o = .ret (bl false) ∧ E H'))
    {N : Nat} {K : XE → Env → List AO → Prop} (hexit : ∀ env H', J rs.length H' → K (.exit 0) env H') (hret : ∀ env H', E H' → K .ret env H') :
    ∀ (m i : Nat) (env : Env) (H : List AO), i + m = rs.length → J i H → env.get 0 = .yl n → env.get 5 = .slc (rowsV rs) rs.length → env.get 6 = i64 rs.length → env.get 7 = i64 i → LI Try.prog N drawB l82_0 env H K := by
  intro m
  induction m with
  | zero =>
    intro i env H hi hJ h0 h5 h6 h7
    refine li_go hm l82_0.eq_1 ?_
    have e : i = rs.length := by omega
    subst e
    simp -implicitDefEqProofs [h0, h5, h6, h7]
    exact hexit _ _ hJ
  | succ m ih =>
    intro i env H hi hJ h0 h5 h6 h7
    refine li_go hm l82_0.eq_1 ?_
    have hlt : i < rs.length := by omega
    have w1 : IntKind.i64.wrap ((i : Int) + 1) = ((i + 1 : Nat) : Int) := wrap_succ (by omega)
    have hyi := hy i hlt H hJ
    simp only [sl] at hyi
    simp -implicitDefEqProofs [h0, h5, h6, h7, hlt, rowsV_at hlt, rowsV_G, rowsV_len, sl]
    repeat (refine And.intro (by omega) ?_)
    refine call_yl hyi ?_
    rintro o H' (⟨rfl, hJ'⟩ | ⟨rfl, hE⟩)
    · simp -implicitDefEqProofs [h0, h5, h6, h7, w1]
      refine ih (i + 1) _ H' (by omega) hJ' ?_ ?_ ?_ ?_ <;> simp [h0, h5, h6]
    · simp -implicitDefEqProofs [h0, h5, h6, h7, w1]
      exact hret _ _ hE
theorem ok82 {J : Nat → List AO → Prop} {E : List AO → Prop} {n a : Nat} {rs : List (List Int)} (hl : rs.length ≤ 200)
    (hb : objCells H a 0 = [.slc (rowsV rs) rs.length]) (ha : a < H.length)
    (hy : ∀ i (h : i < rs.length) H, J i H → YlP Try.prog n [sl rs[i]] H fun o H' => (o = .ret (bl true) ∧ J (i + 1) H') ∨ (o = .ret (bl false) ∧ E H'))
    (hJ : J 0 H) : OkP Try.prog 82 [.yl n, .ptr (.own a 0 0 0 0) 0] H fun o H' => (∃ v, o = .ret v) ∧ (J rs.length H' ∨ E H') := by
  refine okP_fn hm Try.func82 c82 (by simp [ha]) fun hcl => ?_
  simp -implicitDefEqProofs [i82, r82, hb]
  refine loopT82 (J := J) (E := E) hl hy (fun env H' hJ' => ?_) (fun env H' hE => ?_) rs.length 0 _ H (by omega) hJ ?_ ?_ ?_ ?_
  · simp -implicitDefEqProofs
    exact ⟨_, _, ⟨⟨_, rfl⟩, .inl hJ'⟩, cv_id⟩
  · simp -implicitDefEqProofs
    exact ⟨_, _, ⟨⟨_, rfl⟩, .inr hE⟩, cv_id⟩
  all_goals simp
theorem ok69 {rs : List (List Int)} : Ok Try.prog 69 [.slc (rowsV rs) rs.length] H (.ret (.fn (.func 82) [] [.ptr (.own H.length 0 0 0 0) 0])) (H ++ [⟨[.slc (rowsV rs) rs.length], 26, 0, true⟩]) := by
  refine ok_fn hm Try.func69 c69 (by simp [rowsV_under]) fun hcl => ?_
  simp -implicitDefEqProofs [i69, r69]
  exact cv_id
def e44 (H : List AO) : Env := [(1, .ptr (.own H.length 0 0 0 0) 0), (2, .ptr (.own (H.length + 1) 0 0 0 0) 0), (21, .fn (.func 82) [] [.ptr (.own (H.length + 2) 0 0 0 0) 0])]
def rec44 (H : List AO) (st : LSt) : AO := lpo Try.prog 55 drawB 1 [22] ya44_0 yb44_0 ((e44 H).vals 55) st
def bxR (t : Tb) : AO := ⟨[.slc (rowsV t.r) t.r.length], 26, 0, true⟩
def sT (H : List AO) (t : Tb) (e : Int) (lo : AO) : List AO := H ++ [tbox t, rsO e, bxR t, lo]
theorem rowsE_snoc (tot : Int) : ∀ (l : List (List Int)) (r : List Int), rowsE tot l = 0 → rowsE tot (l ++ [r]) = rowE tot r
  | [], r, _ => by simp only [List.nil_append, rowsE]; split <;> omega
  | x :: l, r, h => by
    simp only [rowsE] at h
    by_cases hx : rowE tot x = 0
    · rw [if_neg (by omega)] at h
      simp only [List.cons_append, rowsE, if_neg (show ¬ rowE tot x ≠ 0 by omega)]
      exact rowsE_snoc tot l r h
    · rw [if_pos hx] at h; omega
theorem rowsE_le (tot : Int) : ∀ (l m : List (List Int)), rowsE tot l ≠ 0 → rowsE tot (l ++ m) = rowsE tot l
  | [], m, h => by simp [rowsE] at h
  | x :: l, m, h => by
    simp only [List.cons_append, rowsE] at h ⊢
    by_cases hx : rowE tot x = 0
    · rw [if_neg (by omega)] at h ⊢
      rw [if_neg (by omega)]
      exact rowsE_le tot l m h
    · rw [if_pos hx, if_pos hx]
theorem round44 (h1 : 1 ≤ t.b) (h2 : t.b ≤ 30) (row : List Int) (hrow : row.length < 9223372036854775808) :
    YlP Try.prog (H.length + 3) [sl row] (sT H t 0 (rec44 H .ready)) fun o H' => (o = .ret (bl true) ∧ rowE t.tot row = 0 ∧ H' = sT H t 0 (rec44 H .ready)) ∨ (o = .ret (bl false) ∧ rowE t.tot row ≠ 0 ∧ H' = sT H t (rowE t.tot row) (rec44 H .ret)) := by
  have hsh := tot_shl h1 h2
  refine yl_go (N := 55) (env := e44 H) hm ya44_0.eq_1 yb44_0.eq_1 (by simp [sT]; rfl) (by simp [e44]) (by decide) rfl fun hcl => ?_
  simp -implicitDefEqProofs [e44, sT, sl, pickI, rsO]
  refine ⟨_, rfl, ?_⟩
  unfold rowE
  by_cases c1 : row.length < 1
  · have c1' : (row.length : Int) < 1 := by omega
    simp -implicitDefEqProofs [c1, c1']
    exact ⟨_, by simp; rfl, .ret, false, _, ⟨rfl, rfl⟩, ⟨rfl, rfl⟩, cv_idq (by simp [rec44, e44])⟩
  · have c1' : ¬ (row.length : Int) < 1 := by omega
    by_cases c2 : 10 < row.length
    · have c2' : 10 < (row.length : Int) := by omega
      simp -implicitDefEqProofs [c1, c1', c2, c2']
      exact ⟨_, by simp; rfl, .ret, false, _, ⟨rfl, rfl⟩, ⟨rfl, rfl⟩, cv_idq (by simp [rec44, e44])⟩
    · have c2' : ¬ 10 < (row.length : Int) := by omega
      have hor : ¬ (row.length < 1 ∨ 10 < row.length) := by omega
      simp -implicitDefEqProofs [c1', c2']
      refine LI.cong (H' := H ++ tbox t :: rsO 0 :: [bxR t, lpo Try.prog 55 drawB 1 [22] ya44_0 yb44_0 ((e44 H).vals 55) .busy]) (by simp [rsO]) (loop44_0 h1 h2 (row := row) (by omega) (fun hb env => ?_) (fun hb env k1 k2 k4 => ?_) row.length 0 _ (by omega) rfl ?_ ?_ ?_ ?_ ?_ ?_)
      · rw [if_neg hor, if_pos hb]
        simp -implicitDefEqProofs
        exact ⟨_, by simp; rfl, .ret, false, _, ⟨rfl, rfl⟩, ⟨rfl, rfl⟩, cv_idq (by simp [rec44, e44, sT])⟩
      · rw [if_neg hor, if_neg (by simp [hb])]
        simp -implicitDefEqProofs [k1, k2, k4, tbox, hsh]
        by_cases c3 : row.sum = t.tot
        · simp -implicitDefEqProofs [c3]
          exact ⟨by omega, _, by simp; rfl, .ready, true, _, ⟨rfl, rfl⟩, ⟨rfl, rfl⟩, cv_idq (by simp [rec44, e44, sT, tbox])⟩
        · simp -implicitDefEqProofs [c3, rsO]
          exact ⟨by omega, _, by simp; rfl, .ret, false, _, ⟨rfl, rfl⟩, ⟨rfl, rfl⟩, cv_idq (by simp [rec44, e44, sT, tbox, rsO])⟩
      all_goals simp [sl]
theorem ok44 (hs : ∀ i (h : i < t.r.length), t.r[i].length < 9223372036854775808) : Ok Try.prog 44 [.agg t.cells] H (.ret (i64 t.err)) H := by
  refine ok_fn hm Try.func44 c44 (by simp [Tb.cells, rowsV_under]) fun hcl => ?_
  simp -implicitDefEqProofs [i44, r44, Tb.cells, pickI]
  unfold Tb.err
  by_cases hb : t.b < 1 ∨ 30 < t.b
  · rw [if_pos hb]
    by_cases c1 : t.b < 1
    · simp -implicitDefEqProofs [c1]
      exact cv_fz 1 hcl rfl (by simp)
    · have c2 : 30 < t.b := by omega
      simp -implicitDefEqProofs [c1, c2]
      exact cv_fz 1 hcl rfl (by simp)
  · rw [if_neg hb]
    have c1 : ¬ t.b < 1 := by omega
    have c2 : ¬ 30 < t.b := by omega
    by_cases hr : 200 < t.r.length
    · have hr' : 200 < (t.r.length : Int) := by omega
      simp -implicitDefEqProofs [c1, c2, hr, hr']
      exact cv_fz 1 hcl rfl (by simp)
    · have hr' : ¬ 200 < (t.r.length : Int) := by omega
      simp -implicitDefEqProofs [c1, c2, hr, hr']
      refine call_go ok69 ?_
      simp -implicitDefEqProofs
      have hl0 : t.r.length ≤ 200 := by omega
      refine rg_go (Pt := fun o H' => (∃ v, o = .ret v) ∧ ((rowsE t.tot t.r = 0 ∧ H' = sT H t 0 (rec44 H .ready)) ∨ (rowsE t.tot t.r ≠ 0 ∧ H' = sT H t (rowsE t.tot t.r) (rec44 H .ret)))) ?_ ?_
      · refine OkP.cast (args' := [.yl (H.length + 3), .ptr (.own (H.length + 2) 0 0 0 0) 0]) (H' := sT H t 0 (rec44 H .ready)) (by simp) (by simp [sT, rec44, e44, tbox, rsO, bxR]) ?_
        refine (ok82 (J := fun i H' => rowsE t.tot (t.r.take i) = 0 ∧ H' = sT H t 0 (rec44 H .ready)) (E := fun H' => rowsE t.tot t.r ≠ 0 ∧ H' = sT H t (rowsE t.tot t.r) (rec44 H .ret)) hl0 (by simp [sT, bxR]) (by simp [sT]) ?_ ⟨rfl, rfl⟩).mono ?_
        · rintro i hi H' ⟨hz, rfl⟩
          have hrow : t.r[i].length < 9223372036854775808 := hs i hi
          refine YlP.mono (round44 (by omega) (by omega) t.r[i] hrow) ?_
          rintro o H' (⟨rfl, hz', rfl⟩ | ⟨rfl, hz', rfl⟩)
          · refine .inl ⟨rfl, ?_, rfl⟩
            rw [List.take_succ_eq_append_getElem hi, rowsE_snoc _ _ _ hz]; exact hz'
          · have e : rowsE t.tot t.r = rowE t.tot t.r[i] := by
              have h3 := rowsE_snoc t.tot (t.r.take i) t.r[i] hz
              rw [← List.take_succ_eq_append_getElem hi] at h3
              have h4 := rowsE_le t.tot (t.r.take (i + 1)) (t.r.drop (i + 1)) (by rw [h3]; exact hz')
              rw [List.take_append_drop] at h4
              rw [h4, h3]
            rw [e]
            exact .inr ⟨rfl, hz', rfl⟩
        · rintro o H' ⟨hv, h⟩
          rw [List.take_length] at h
          exact ⟨hv, h⟩
      · rintro out H' ⟨⟨v, rfl⟩, (⟨hz, rfl⟩ | ⟨hz, rfl⟩)⟩
        · refine ⟨.ready, _, by simp [sT]; rfl, ?_⟩
          simp -implicitDefEqProofs [sT, rsO]
          rw [hz]
          exact cv_fz 1 hcl rfl (by simp [c1, c2, hr])
        · refine ⟨.ret, _, by simp [sT]; rfl, ?_⟩
          simp -implicitDefEqProofs [sT, rsO]
          exact cv_fz 1 hcl rfl (by simp [c1, c2, hr])
end
end Go.Proofs.Ytoghpbjllompaaa.Rc

/- P16 -/
namespace Go.Proofs.Ytoghpbjllompaaa.Rc
open Go.Ab
section
variable {H : List AO} {t : Tb}
theorem loopC45_1 (h1 : 1 ≤ t.b) (h2 : t.b ≤ 30) {row : List Int} (hl : row.length ≤ 10) {e3 : SV} {N : Nat} {K : XE → Env → List AO → Prop}
    (hret : shE t.tot row = true → ∀ env, env.get 2 = i64 2 → K .ret env (H ++ [tbox t])) (hexit : shE t.tot row = false → ∀ env, env.get 1 = .ptr (.own H.length 0 0 0 0) 0 → env.get 3 = e3 → env.get 5 = i64 row.sum → K (.exit 2) env (H ++ [tbox t])) :
    ∀ (n i : Nat) (env : Env), i + n = row.length → shE t.tot (row.take i) = false → env.get 1 = .ptr (.own H.length 0 0 0 0) 0 → env.get 3 = e3 → env.get 4 = sl row → env.get 5 = i64 (row.take i).sum → env.get 6 = i64 i →
      LI Try.prog N drawB l45_1 env (H ++ [tbox t]) K := by
  have htot := tot_rng h1 h2
  intro n
  induction n with
  | zero =>
    intro i env hi hs g1 g3 g4 g5 g6
    refine li_go hm l45_1.eq_1 ?_
    have e : i = row.length := by omega
    subst e
    rw [List.take_length] at g5 hs
    simp -implicitDefEqProofs [g1, g3, g4, g5, g6, sl]
    refine hexit hs _ ?_ ?_ ?_ <;> simp [g1, g3, g5]
  | succ n ih =>
    intro i env hi hs g1 g3 g4 g5 g6
    refine li_go hm l45_1.eq_1 ?_
    have hlt : i < row.length := by omega
    have hsh := tot_shl h1 h2
    have ht := shE_take (tot := t.tot) hlt
    have hsum := shE_sum (by omega) hs
    have hm10 : t.tot * (row.take i).length ≤ 1073741824 * 10 := Int.mul_le_mul htot.2 (by simp; omega) (by omega) (by omega)
    have w1 : IntKind.i64.wrap ((i : Int) + 1) = ((i + 1 : Nat) : Int) := wrap_succ (by omega)
    simp -implicitDefEqProofs [g1, g3, g4, g5, g6, hlt, sl, tbox, hsh, pickI]
    by_cases c1 : row[i] < 0
    · have hbad : shE t.tot row = true := shE_le (i := i + 1) (by rw [ht]; simp [c1])
      simp -implicitDefEqProofs [c1]
      repeat (refine And.intro (by omega) ?_)
      exact hret hbad _ (by simp)
    · by_cases c2 : t.tot < row[i]
      · have hbad : shE t.tot row = true := shE_le (i := i + 1) (by rw [ht]; simp [c2])
        simp -implicitDefEqProofs [c1, c2]
        repeat (refine And.intro (by omega) ?_)
        exact hret hbad _ (by simp)
      · have w2 : IntKind.i64.wrap ((row.take i).sum + row[i]) = (row.take (i + 1)).sum := by
          rw [List.take_succ_eq_append_getElem hlt, List.sum_append]; simp only [List.sum_cons, List.sum_nil, Int.add_zero]
          exact wrap_id (by omega) (by omega)
        simp -implicitDefEqProofs [c1, c2, g1, g3, g4, g5, g6, hlt, sl, w1, w2]
        repeat (refine And.intro (by omega) ?_)
        refine ih (i + 1) _ (by omega) (by rw [ht, hs]; simp [c1, c2]) ?_ ?_ ?_ ?_ ?_ <;> simp [g1, g3, sl]
theorem loopC45_0 (h1 : 1 ≤ t.b) (h2 : t.b ≤ 30) (hl : t.r.length ≤ 200) {N : Nat} {K : XE → Env → List AO → Prop}
    (hret : ∀ env e, rowsE t.tot t.r = e → env.get 2 = i64 e → K .ret env (H ++ [tbox t])) (hexit : rowsE t.tot t.r = 0 → ∀ env, K (.exit 0) env (H ++ [tbox t])) :
    ∀ (n i : Nat) (env : Env), i + n = t.r.length → rowsE t.tot (t.r.take i) = 0 → env.get 1 = .ptr (.own H.length 0 0 0 0) 0 → env.get 3 = i64 i →
      LI Try.prog N drawB l45_0 env (H ++ [tbox t]) K := by
  have hsh := tot_shl h1 h2
  intro n
  induction n with
  | zero =>
    intro i env hi hs g1 g3
    refine li_go hm l45_0.eq_1 ?_
    have e : i = t.r.length := by omega
    subst e
    rw [List.take_length] at hs
    simp -implicitDefEqProofs [g1, g3, tbox]
    exact hexit hs _
  | succ n ih =>
    intro i env hi hs g1 g3
    refine li_go hm l45_0.eq_1 ?_
    have hlt : i < t.r.length := by omega
    have w1 : IntKind.i64.wrap ((i : Int) + 1) = ((i + 1 : Nat) : Int) := wrap_succ (by omega)
    have h3 := rowsE_snoc t.tot (t.r.take i) t.r[i] hs
    rw [← List.take_succ_eq_append_getElem hlt] at h3
    have hbad : rowE t.tot t.r[i] ≠ 0 → rowsE t.tot t.r = rowE t.tot t.r[i] := fun hz' => by
      have h4 := rowsE_le t.tot (t.r.take (i + 1)) (t.r.drop (i + 1)) (by rw [h3]; exact hz')
      rw [List.take_append_drop] at h4
      rw [h4, h3]
    simp -implicitDefEqProofs [g1, g3, tbox, hlt, rowsV_at hlt, rowsV_G, rowsV_len, sl, pickI]
    repeat (refine And.intro (by omega) ?_)
    have hstep := fun env hz => ih (i + 1) env (by omega) (hz : rowsE t.tot (t.r.take (i + 1)) = 0)
    rw [h3] at hstep
    generalize t.r[i] = row at *
    unfold rowE at hbad hstep
    by_cases c1 : row.length < 1
    · have c1' : (row.length : Int) < 1 := by omega
      rw [if_pos (.inl c1)] at hbad
      simp -implicitDefEqProofs [c1']
      exact hret _ 3 (hbad (by omega)) (by simp)
    · have c1' : ¬ (row.length : Int) < 1 := by omega
      by_cases c2 : 10 < row.length
      · have c2' : 10 < (row.length : Int) := by omega
        rw [if_pos (.inr c2)] at hbad
        simp -implicitDefEqProofs [c1', c2']
        exact hret _ 3 (hbad (by omega)) (by simp)
      · have c2' : ¬ 10 < (row.length : Int) := by omega
        have hor : ¬ (row.length < 1 ∨ 10 < row.length) := by omega
        rw [if_neg hor] at hbad hstep
        simp -implicitDefEqProofs [c1', c2']
        refine LI.cong (H' := H ++ [tbox t]) (by simp [tbox]) (loopC45_1 h1 h2 (row := row) (by omega) (e3 := i64 i) (fun hb env k2 => ?_) (fun hb env k1 k3 k5 => ?_) row.length 0 _ (by omega) rfl ?_ ?_ ?_ ?_ ?_)
        · rw [if_pos hb] at hbad
          simp -implicitDefEqProofs
          exact hret _ 2 (hbad (by omega)) (by simp [k2])
        · rw [if_neg (by simp [hb])] at hbad hstep
          simp -implicitDefEqProofs [k1, k3, k5, tbox, hsh, w1]
          refine And.intro (by omega) ?_
          by_cases c3 : row.sum = t.tot
          · simp -implicitDefEqProofs [c3, k1, k3, w1]
            exact hstep _ (by simp [c3]) (by simp [k1]) (by simp)
          · rw [if_pos c3] at hbad
            simp -implicitDefEqProofs [c3]
            exact hret _ 14 (hbad (by omega)) (by simp)
        all_goals simp [g1, g3, sl]
theorem ok45 : Ok Try.prog 45 [.agg t.cells] H (.ret (i64 t.err)) H := by
  refine ok_fn hm Try.func45 c45 (by simp [Tb.cells, rowsV_under]) fun hcl => ?_
  simp -implicitDefEqProofs [i45, r45, Tb.cells, pickI]
  unfold Tb.err
  by_cases hb : t.b < 1 ∨ 30 < t.b
  · rw [if_pos hb]
    by_cases c1 : t.b < 1
    · simp -implicitDefEqProofs [c1]
      exact cv_fz 1 hcl rfl (by simp)
    · have c2 : 30 < t.b := by omega
      simp -implicitDefEqProofs [c1, c2]
      exact cv_fz 1 hcl rfl (by simp)
  · rw [if_neg hb]
    have c1 : ¬ t.b < 1 := by omega
    have c2 : ¬ 30 < t.b := by omega
    by_cases hr : 200 < t.r.length
    · have hr' : 200 < (t.r.length : Int) := by omega
      simp -implicitDefEqProofs [c1, c2, hr, hr']
      exact cv_fz 1 hcl rfl (by simp)
    · have hr' : ¬ 200 < (t.r.length : Int) := by omega
      simp -implicitDefEqProofs [c1, c2, hr, hr']
      refine LI.cong (H' := H ++ [tbox t]) (by simp [tbox]) (loopC45_0 (by omega) (by omega) (by omega) (fun env e he k2 => ?_) (fun hz env => ?_) t.r.length 0 _ (by omega) rfl ?_ ?_)
      · simp -implicitDefEqProofs [k2]
        exact cv_fz 1 hcl rfl (by simp [c1, c2, hr, he])
      · simp -implicitDefEqProofs
        exact cv_fz 1 hcl rfl (by simp [c1, c2, hr, hz])
      all_goals simp
end
end Go.Proofs.Ytoghpbjllompaaa.Rc

/- P17 -/
namespace Go.Proofs.Ytoghpbjllompaaa.Rc
open Go.Ab
def rowB (row : List Int) : List Int := u8w row.length :: row.flatMap putB
def Tb.byt (t : Tb) : List Int := headB 84 t.b t.r.length ++ t.r.flatMap rowB
theorem rowE_ok {tot : Int} {row : List Int} (h : rowE tot row = 0) : 1 ≤ row.length ∧ row.length ≤ 10 ∧ shE tot row = false ∧ row.sum = tot := by
  unfold rowE at h
  split at h
  · cases h
  · split at h
    · cases h
    · rename_i h2
      split at h
      · cases h
      · rename_i h3
        exact ⟨by omega, by omega, by simpa using h2, Classical.byContradiction h3⟩
theorem shE_mem {tot : Int} : ∀ {l : List Int}, shE tot l = false → ∀ s ∈ l, 0 ≤ s ∧ s ≤ tot
  | [], _, s, hs => by simp at hs
  | x :: l, h, s, hs => by
    simp only [shE, Bool.or_eq_false_iff, decide_eq_false_iff_not] at h
    rcases List.mem_cons.1 hs with rfl | hs
    · omega
    · exact shE_mem h.2 s hs
theorem rowsE_mem {tot : Int} : ∀ {l : List (List Int)}, rowsE tot l = 0 → ∀ r ∈ l, rowE tot r = 0
  | [], _, s, hs => by simp at hs
  | x :: l, h, s, hs => by
    simp only [rowsE] at h
    by_cases hx : rowE tot x = 0
    · rw [if_neg (by omega)] at h
      rcases List.mem_cons.1 hs with rfl | hs
      · exact hx
      · exact rowsE_mem h s hs
    · rw [if_pos hx] at h; omega
/-- What is known of a table without a fault. -/
structure Td (t : Tb) : Prop where
  b1 : 1 ≤ t.b
  b2 : t.b ≤ 30
  n : t.r.length ≤ 200
  r : ∀ r ∈ t.r, 1 ≤ r.length ∧ r.length ≤ 10 ∧ ∀ s ∈ r, 0 ≤ s ∧ s ≤ 1073741824
theorem Td.of {t : Tb} (h : t.err = 0) : Td t := by
  unfold Tb.err at h
  split at h
  · cases h
  · split at h
    · cases h
    · have htot := tot_rng (t := t) (by omega) (by omega)
      refine ⟨by omega, by omega, by omega, fun r hr => ?_⟩
      obtain ⟨a, b, c, d⟩ := rowE_ok (rowsE_mem h r hr)
      exact ⟨a, b, fun s hs => by have := shE_mem c s hs; omega⟩
theorem rowB_len {row : List Int} (h : row.length ≤ 10) : (rowB row).length ≤ 101 := by
  have := fm_len (f := putB) (b := 10) (l := row) fun y _ => (putB_len y).2
  simp only [rowB, List.length_cons]; omega
theorem Tb.byt_len {t : Tb} (h : Td t) : t.byt.length < 10000000 := by
  have h1 := headB_len 84 t.b t.r.length
  have h2 := fm_len (f := rowB) (b := 101) (l := t.r) fun y hy => rowB_len (h.r y hy).2.1
  have h3 := h.n
  simp only [Tb.byt, List.length_append]; omega
theorem Tb.byt_oct {t : Tb} (h : Td t) : Oct t.byt := by
  have h5 := h.n
  refine Oct.app (Oct.app ?_ (Oct.put (by omega) (by omega))) (Oct.fm fun y hy => ?_)
  · exact Oct.cons (by omega) (Oct.cons (by omega) (Oct.cons (by omega) (Oct.cons (u8w_rng _) Oct.nil)))
  · exact Oct.cons (u8w_rng _) (Oct.fm fun s hs => by have := (h.r y hy).2.2 s hs; exact Oct.put (by omega) (by omega))
def tabR (t : Tb) : List Int × Int := if t.err ≠ 0 then ([], t.err) else (sealB t.byt, 0)
section
variable {A H : List AO} {t : Tb}
theorem loopC13_1 {ws R : List Int} (hw : ∀ w ∈ ws, 0 ≤ w ∧ w < 9223372036854775808) (hwl : ws.length ≤ 100000) (hR : R.length < 10000000000) {e31 e32 e33 : SV} {N : Nat} {K : XE → Env → List AO → Prop}
    (hexit : ∀ env v M, env.get 6 = .own A.length 0 R.length 1 v → env.get 31 = e31 → env.get 32 = e32 → env.get 33 = e33 → K (.exit 2) env (A ++ rwB 5 v R :: M)) :
    ∀ (n i : Nat) (l : List Int) (v : Nat) (env : Env) (M : List AO), i + n = ws.length → l ++ (ws.drop i).flatMap putB = R → env.get 6 = .own A.length 0 l.length 1 v → env.get 31 = e31 → env.get 32 = e32 → env.get 33 = e33 →
      env.get 43 = sl ws → env.get 44 = i64 ws.length → env.get 45 = i64 i → LI Try.prog N drawB l13_1 env (A ++ rwB 5 v l :: M) K := by
  intro n
  induction n with
  | zero =>
    intro i l v env M hi hr h6 h31 h32 h33 h43 h44 h45
    refine li_go hm l13_1.eq_1 ?_
    have e : i = ws.length := by omega
    subst e
    have hr : l = R := by simpa using hr
    subst hr
    simp -implicitDefEqProofs [h6, h31, h32, h33, h43, h44, h45]
    refine hexit _ v M ?_ ?_ ?_ ?_ <;> simp [h6, h31, h32, h33]
  | succ n ih =>
    intro i l v env M hi hr h6 h31 h32 h33 h43 h44 h45
    refine li_go hm l13_1.eq_1 ?_
    have hlt : i < ws.length := by omega
    have hwi := hw _ (List.getElem_mem hlt)
    rw [List.drop_eq_getElem_cons hlt, List.flatMap_cons, ← List.append_assoc] at hr
    have hll : (l ++ putB ws[i]).length ≤ R.length := by rw [← hr]; simp
    have hll2 : l.length ≤ R.length := by rw [List.length_append] at hll; omega
    have w1 : IntKind.i64.wrap ((i : Int) + 1) = ((i + 1 : Nat) : Int) := wrap_succ (by omega)
    have h38 := ok38 (H := A ++ rwB 5 v l :: M) (j := A.length) (v := v) (l := l) (by simp) (by omega) hwi.1 hwi.2
    simp -implicitDefEqProofs [h6, h31, h32, h33, h43, h44, h45, hlt, sl]
    repeat (refine And.intro (by omega) ?_)
    refine call_go h38 ?_
    simp -implicitDefEqProofs [h6, h31, h32, h33, h43, h44, h45, hlt, sl, w1]
    refine LI.cong (by simp [set_app0]) (ih (i + 1) (l ++ putB ws[i]) (v + (putB ws[i]).length) _ M (by omega) hr ?_ ?_ ?_ ?_ ?_ ?_ ?_) <;> simp [h31, h32, h33, h43, h44, sl, w1]
theorem loopC13_0 (ht : Td t) {R : List Int} (hR : R.length < 10000000000) {N : Nat} {K : XE → Env → List AO → Prop}
    (hexit : ∀ env v M, env.get 6 = .own A.length 0 R.length 1 v → K (.exit 0) env (A ++ rwB 5 v R :: M)) :
    ∀ (n i : Nat) (l : List Int) (v : Nat) (env : Env) (M : List AO), i + n = t.r.length → l ++ (t.r.drop i).flatMap rowB = R → env.get 6 = .own A.length 0 l.length 1 v → env.get 31 = .slc (rowsV t.r) t.r.length → env.get 32 = i64 t.r.length → env.get 33 = i64 i →
      LI Try.prog N drawB l13_0 env (A ++ rwB 5 v l :: M) K := by
  have htn := ht.n
  intro n
  induction n with
  | zero =>
    intro i l v env M hi hr h6 h31 h32 h33
    refine li_go hm l13_0.eq_1 ?_
    have e : i = t.r.length := by omega
    subst e
    have hr : l = R := by simpa using hr
    subst hr
    simp -implicitDefEqProofs [h6, h31, h32, h33]
    refine hexit _ v M ?_ <;> simp [h6]
  | succ n ih =>
    intro i l v env M hi hr h6 h31 h32 h33
    refine li_go hm l13_0.eq_1 ?_
    have hlt : i < t.r.length := by omega
    have hrow := ht.r _ (List.getElem_mem hlt)
    rw [List.drop_eq_getElem_cons hlt, List.flatMap_cons, ← List.append_assoc] at hr
    have hll : (l ++ rowB t.r[i]).length ≤ R.length := by rw [← hr]; simp
    have w1 : IntKind.i64.wrap ((i : Int) + 1) = ((i + 1 : Nat) : Int) := wrap_succ (by omega)
    simp -implicitDefEqProofs [h6, h31, h32, h33, hlt, rowsV_at hlt, rowsV_G, rowsV_len, sl, u8w_eq, rwB]
    generalize t.r[i] = row at *
    have hll2 : l.length + (rowB row).length ≤ R.length := by rw [List.length_append] at hll; omega
    have hll3 : 1 ≤ (rowB row).length := by simp [rowB]
    repeat (refine And.intro (by omega) ?_)
    refine LI.cong (by simp [rwB, byts]) (loopC13_1 (A := A) (ws := row) (R := l ++ rowB row) (fun w hw => by have := hrow.2.2 w hw; omega) (by omega) (by omega) (e31 := .slc (rowsV t.r) t.r.length) (e32 := i64 t.r.length) (e33 := i64 i) (fun env v M k6 k31 k32 k33 => ?_)
      row.length 0 (l ++ [u8w row.length]) (v + 1) _ (M ++ [⟨[u8 (u8w row.length)], 5, 0, true⟩]) (by omega) (by simp [rowB]) ?_ ?_ ?_ ?_ ?_ ?_ ?_)
    · simp -implicitDefEqProofs [k6, k31, k32, k33, w1]
      refine ih (i + 1) _ v _ M (by omega) hr ?_ ?_ ?_ ?_ <;> simp [k6, k31, k32]
    all_goals simp [h31, h32, h33, sl]
theorem ok13 (hs : ∀ i (h : i < t.r.length), t.r[i].length < 9223372036854775808) : Ok Try.prog 13 [.agg t.cells] H (.ret (bl2 (tabR t))) H := by
  refine ok_fn hm Try.func13 c13 (by simp [Tb.cells, rowsV_under]) fun hcl => ?_
  have hh := fun H => ok44 (H := H) (t := t) hs
  simp only [Tb.cells] at hh
  simp -implicitDefEqProofs [i13, r13, Tb.cells]
  refine call_go (hh _) ?_
  unfold tabR
  by_cases hf : t.err = 0
  · have ht := Td.of hf
    have hn := ht.n
    have hbl := Tb.byt_len ht
    have hbo := Tb.byt_oct ht
    have hpl := putB_len t.r.length
    simp -implicitDefEqProofs [hf]
    refine call_go (ok37 84) ?_
    simp -implicitDefEqProofs [u8w_eq]
    have h38 := ok38 (H := H ++ tbox t :: hdO 84 :: rwB 5 2 [80, 84, 1, u8w t.b] :: [⟨[u8 (u8w t.b)], 5, 0, true⟩]) (j := H.length + 2) (v := 2) (l := [80, 84, 1, u8w t.b]) (by simp) (by simp) (n := t.r.length) (by omega) (by omega)
    refine call_go (Ok.cast (by simp) (by simp [rwB, byts, tbox, hdO]) rfl rfl h38) ?_
    simp -implicitDefEqProofs [tbox]
    refine LI.cong (H' := (H ++ [tbox t, hdO 84]) ++ rwB 5 (2 + (putB t.r.length).length) (headB 84 t.b t.r.length) :: [⟨[u8 (u8w t.b)], 5, 0, true⟩]) ?_ (loopC13_0 (A := H ++ [tbox t, hdO 84]) ht (R := t.byt) (by omega) (fun env v M k6 => ?_) t.r.length 0 (headB 84 t.b t.r.length) (2 + (putB t.r.length).length) _ [⟨[u8 (u8w t.b)], 5, 0, true⟩] (by omega) (by simp [Tb.byt]) ?_ ?_ ?_ ?_)
    · simp [tbox, headB]
    · simp -implicitDefEqProofs [k6]
      have h40 := ok40 (A := H ++ [tbox t, hdO 84]) (l := t.byt) (v := v) (M := M) hbo (by omega)
      refine call_go (Ok.cast (by simp) (by simp) rfl rfl h40) ?_
      simp -implicitDefEqProofs
      refine cv_fz 3 hcl rfl ?_
      simp [hf, bl2, rwB]
    all_goals simp [headB]
  · simp -implicitDefEqProofs [hf]
    refine Cv.le (cv_fz 4 hcl rfl rfl) ?_
    simp [hf, bl2, byts]
    exact le_tup (leL.cons le_nil (leL.cons (SV.le.refl _) leL.nil))
end
end Go.Proofs.Ytoghpbjllompaaa.Rc

/- P18 -/
namespace Go.Proofs.Ytoghpbjllompaaa.Rc
open Go.Ab Go.WideShapes
section
variable {H : List AO} {t : Tb}
end
end Go.Proofs.Ytoghpbjllompaaa.Rc

/- Q17 -/
namespace Go.Proofs.Ytoghpbjllompaaa.Rc
open Go.Ab
end Go.Proofs.Ytoghpbjllompaaa.Rc

/- P19 -/
namespace Go.Proofs.Ytoghpbjllompaaa.Rc
open Go.Ab Go.WideShapes
section
variable {H : List AO} {t : Tb} {g : Gm}
end
end Go.Proofs.Ytoghpbjllompaaa.Rc

/- P20 -/
namespace Go.Proofs.Ytoghpbjllompaaa.Rc
open Go.Ab
abbrev Fl := Int × Int
def fltV (f : Fl) : SV := .ifc 47 (.agg [i64 f.1, i64 f.2])
def rdO (l : List Int) (a : Nat) : AO := ⟨[.slc (byts l) l.length, i64 a], 86, 0, true⟩
def rp (j : Nat) : SV := .ptr (.own j 0 0 0 0) 0
def octR (l : List Int) (lo hi : Int) (a : Nat) : Except Fl (Int × Nat) :=
  if l.length ≤ a then .error (16, a) else if l.getD a 0 < lo ∨ hi < l.getD a 0 then .error (2, a) else .ok (l.getD a 0, a + 1)
/-- All objects but these are as they were. -/
structure Keep (H : List AO) (js : List Nat) (H' : List AO) : Prop where
  len : H.length ≤ H'.length
  at_ : ∀ i, i < H.length → i ∉ js → H'[i]? = H[i]?
theorem Keep.refl (H : List AO) (js : List Nat) : Keep H js H := ⟨Nat.le_refl _, fun _ _ _ => rfl⟩
theorem Keep.set {H : List AO} {js : List Nat} {j : Nat} (hj : j ∈ js) (o : AO) : Keep H js (H.set j o) := by
  refine ⟨by simp, fun i _ hi => ?_⟩
  rw [List.getElem?_set_ne]
  rintro rfl; exact hi hj
theorem Keep.trans {H H' H'' : List AO} {js : List Nat} (h : Keep H js H') (h' : Keep H' js H'') : Keep H js H'' :=
  ⟨Nat.le_trans h.len h'.len, fun i hi hj => (h'.at_ i (Nat.lt_of_lt_of_le hi h.len) hj).trans (h.at_ i hi hj)⟩
theorem Keep.mono {H H' : List AO} {js ks : List Nat} (h : Keep H js H') (hs : ∀ j ∈ js, j ∈ ks) : Keep H ks H' :=
  ⟨h.len, fun i hi hj => h.at_ i hi fun hj' => hj (hs i hj')⟩
/-- What a reader's call comes to. -/
def RdP {α : Type} (H : List AO) (l : List Int) (j : Nat) (f : α → SV) (r : Except Fl (α × Nat)) (o : Out) (H' : List AO) : Prop :=
  match r with
  | .ok (v, a) => o = .ret (f v) ∧ H' = H.set j (rdO l a)
  | .error e => o = .pan (fltV e) ∧ Keep H [j] H'
theorem objCells_set1 {H : List AO} {j : Nat} (hj : j < H.length) (c : List SV) (T : TypeId) (v : Nat) : objCells (H.set j ⟨c, T, v, true⟩) j v = c :=
  objCells_of (o := ⟨c, T, v, true⟩) (by rw [List.getElem?_set_self hj]) rfl
section
variable {H : List AO} {l : List Int} {j a : Nat}
theorem ok53 (e p : Int) : Ok Try.prog 53 [i64 e, i64 p] H (.pan (fltV (e, p))) H := by
  refine ok_fn hm Try.func53 c53 (by simp) fun hcl => ?_
  simp -implicitDefEqProofs [i53, r53]
  exact cv_id
theorem ok70 (v lo hi p : Int) : Ok Try.prog 70 [i64 v, i64 lo, i64 hi, i64 p] H (if v < lo ∨ hi < v then .pan (fltV (2, p)) else .ret (i64 v)) H := by
  refine ok_fn hm Try.func70 c70 (by simp) fun hcl => ?_
  by_cases h1 : v < lo
  · rw [if_pos (.inl h1)]
    simp -implicitDefEqProofs [i70, r70, h1, pickI]
    refine call_go (ok53 2 p) ?_
    simp -implicitDefEqProofs
    exact cv_id
  · by_cases h2 : hi < v
    · rw [if_pos (.inr h2)]
      simp -implicitDefEqProofs [i70, r70, h1, h2, pickI]
      refine call_go (ok53 2 p) ?_
      simp -implicitDefEqProofs
      exact cv_id
    · rw [if_neg (by omega)]
      simp -implicitDefEqProofs [i70, r70, h1, h2, pickI]
      exact cv_id
theorem byts_at {l : List Int} {k : Nat} (h : k < l.length) : (byts l)[k]? = some (u8 l[k]) := by simp [byts, h]
theorem ok49 (ho : H[j]? = some (rdO l a)) (hoct : Oct l) (hl : l.length ≤ 100000) (ha : a ≤ l.length) (lo hi : Int) :
    OkP Try.prog 49 [rp j, i64 lo, i64 hi] H (RdP H l j i64 (octR l lo hi a)) := by
  have hj := getElem?_lt ho
  have e1 : objCells H j 0 = (rdO l a).cells := objCells_of (o := rdO l a) ho rfl
  have e2 : ∀ f : AO → AO, Ab.setObj H j f = H.set j (f (rdO l a)) := fun f => setObj_some ho f
  refine okP_fn hm Try.func49 c49 (by simp [rp, SV.under, hj]) fun hcl => ?_
  unfold octR
  by_cases h1 : l.length ≤ a
  · have e : a = l.length := by omega
    subst e
    rw [if_pos (Nat.le_refl _)]
    simp -implicitDefEqProofs [i49, r49, rp, e1, rdO]
    refine call_go (ok53 16 l.length) ?_
    simp -implicitDefEqProofs
    exact ⟨_, H, ⟨rfl, Keep.refl _ _⟩, cv_id⟩
  · rw [if_neg h1]
    have hlt : a < l.length := by omega
    have hne : ¬ (a : Int) = (l.length : Int) := by omega
    have hne' : ¬ a = l.length := by omega
    have hb := hoct _ (List.getElem_mem hlt)
    have w1 : IntKind.i64.wrap ((a : Int) + 1) = (a : Int) + 1 := wrap_id (by omega) (by omega)
    have w2 : IntKind.i64.wrap (a : Int) = a := wrap_nat (by omega)
    have w3 : IntKind.i64.wrap l[a] = l[a] := wrap_id (by omega) (by omega)
    have hg : l.getD a 0 = l[a] := by simp [hlt]
    rw [hg]
    have h70 := ok70 (H := H.set j (rdO l (a + 1))) l[a] lo hi a
    simp only [rdO] at h70
    simp -implicitDefEqProofs [i49, r49, rp, e1, e2, rdO, hne, hne', w1, objCells_set1 hj, w2, hlt, byts_at hlt, w3]
    refine ⟨by omega, call_go (by simpa using h70) ?_⟩
    by_cases hr : l[a] < lo ∨ hi < l[a]
    · rw [if_pos hr, if_pos hr]
      simp -implicitDefEqProofs
      exact ⟨_, _, ⟨rfl, Keep.set (by simp) _⟩, cv_id⟩
    · rw [if_neg hr, if_neg hr]
      simp -implicitDefEqProofs [objCells_set1 hj, w2, hlt, byts_at hlt, w3]
      exact ⟨_, _, ⟨rfl, rfl⟩, cv_idq (by simp [rdO])⟩
/-- A number, from lo to hi. -/
def numR (l : List Int) (lo hi : Int) (a : Nat) : Except Fl (Int × Nat) :=
  if (getV l a).2.2 ≠ 0 then .error ((getV l a).2.2, a) else if (getV l a).1 < lo ∨ hi < (getV l a).1 then .error (2, a) else .ok ((getV l a).1, (getV l a).2.1.toNat)
theorem getR_next : ∀ (k : Nat) (r : List Int) (p n i v nx : Int), getR k r p n i = (v, nx, 0) → i < nx ∧ nx ≤ i + r.length
  | 0, r, p, n, i, v, nx, h => by simp [getR] at h
  | k + 1, [], p, n, i, v, nx, h => by simp [getR] at h
  | k + 1, c :: r, p, n, i, v, nx, h => by
    simp only [getR] at h
    split at h
    · have := getR_next k r _ _ _ v nx h
      simp only [List.length_cons]; omega
    · split at h
      · simp at h
      · simp only [Prod.mk.injEq, and_true] at h
        simp only [List.length_cons]; omega
theorem getV_next {l : List Int} {a : Nat} (h : (getV l a).2.2 = 0) (ha : a ≤ l.length) : (a : Int) < (getV l a).2.1 ∧ (getV l a).2.1 ≤ l.length := by
  obtain ⟨v, nx, e, hv⟩ : ∃ v nx e, getV l a = (v, nx, e) := ⟨_, _, _, rfl⟩
  rw [hv] at h ⊢
  simp only at h ⊢
  subst h
  unfold getV at hv
  split at hv
  · simp at hv
  · have := getR_next _ _ _ _ _ _ _ hv
    simp only [Int.toNat_natCast, List.length_drop] at this
    omega
theorem ok50 (ho : H[j]? = some (rdO l a)) (hoct : Oct l) (hl : l.length ≤ 100000) (ha : a ≤ l.length) (lo hi : Int) :
    OkP Try.prog 50 [rp j, i64 lo, i64 hi] H (RdP H l j i64 (numR l lo hi a)) := by
  have hj := getElem?_lt ho
  have e1 : objCells H j 0 = (rdO l a).cells := objCells_of (o := rdO l a) ho rfl
  have e2 : ∀ f : AO → AO, Ab.setObj H j f = H.set j (f (rdO l a)) := fun f => setObj_some ho f
  refine okP_fn hm Try.func50 c50 (by simp [rp, SV.under, hj]) fun hcl => ?_
  have h18 := ok18 (IsB.slc H l) hoct (by omega) a
  have hnx := fun h => getV_next (l := l) (a := a) h ha
  unfold numR
  generalize getV l a = g at *
  obtain ⟨v, nx, e⟩ := g
  simp only [tup3] at *
  simp -implicitDefEqProofs [i50, r50, rp, e1, rdO]
  refine call_go h18 ?_
  by_cases he : e = 0
  · subst he
    have hnx := hnx rfl
    have h70 := ok70 (H := H.set j (rdO l nx.toNat)) v lo hi a
    have hto : ((nx.toNat : Nat) : Int) = nx := by omega
    simp only [rdO, hto] at h70
    simp -implicitDefEqProofs [e1, e2, rdO]
    refine call_go (by simpa using h70) ?_
    by_cases hr : v < lo ∨ hi < v
    · rw [if_pos hr, if_pos hr]
      simp -implicitDefEqProofs
      exact ⟨_, _, ⟨rfl, Keep.set (by simp) _⟩, cv_id⟩
    · rw [if_neg hr, if_neg hr]
      simp -implicitDefEqProofs
      exact ⟨_, _, ⟨rfl, rfl⟩, cv_idq (by simp [rdO, hto])⟩
  · simp -implicitDefEqProofs [e1, e2, rdO, he]
    refine call_go (ok53 e a) ?_
    simp -implicitDefEqProofs [he]
    exact ⟨_, H, ⟨rfl, Keep.refl _ _⟩, cv_id⟩
/-- A signed number, from lo to hi. -/
def unz (n : Int) : Int := if n % 2 = 1 then -(n / 2) - 1 else n / 2
def sgnR (l : List Int) (lo hi : Int) (a : Nat) : Except Fl (Int × Nat) :=
  match numR l 0 4611686018427387903 a with
  | .error e => .error e
  | .ok (n, a') => if unz n < lo ∨ hi < unz n then .error (2, a) else .ok (unz n, a')
theorem numR_rng {l : List Int} {lo hi : Int} {a a' : Nat} {n : Int} (h : numR l lo hi a = .ok (n, a')) : lo ≤ n ∧ n ≤ hi := by
  unfold numR at h
  split at h
  · cases h
  · split at h
    · cases h
    · simp only [Except.ok.injEq, Prod.mk.injEq] at h; omega
theorem numR_next {l : List Int} {lo hi : Int} {a a' : Nat} {n : Int} (h : numR l lo hi a = .ok (n, a')) (ha : a ≤ l.length) : a < a' ∧ a' ≤ l.length := by
  unfold numR at h
  split at h
  · cases h
  · rename_i h1
    have := getV_next (l := l) (a := a) (Classical.byContradiction h1) ha
    split at h
    · cases h
    · simp only [Except.ok.injEq, Prod.mk.injEq] at h; omega
theorem octR_next {l : List Int} {lo hi : Int} {a a' : Nat} {n : Int} (h : octR l lo hi a = .ok (n, a')) : a < a' ∧ a' ≤ l.length ∧ lo ≤ n ∧ n ≤ hi := by
  unfold octR at h
  split at h
  · cases h
  · split at h
    · cases h
    · simp only [Except.ok.injEq, Prod.mk.injEq] at h; omega
theorem ok83 (ho : H[j]? = some (rdO l a)) (hoct : Oct l) (hl : l.length ≤ 100000) (ha : a ≤ l.length) (lo hi : Int) :
    OkP Try.prog 83 [rp j, i64 lo, i64 hi] H (RdP H l j i64 (sgnR l lo hi a)) := by
  have hj := getElem?_lt ho
  have e1 : objCells H j 0 = (rdO l a).cells := objCells_of (o := rdO l a) ho rfl
  refine okP_fn hm Try.func83 c83 (by simp [rp, SV.under, hj]) fun hcl => ?_
  have h50 := ok50 ho hoct hl ha 0 4611686018427387903
  have hrg := fun n a' => numR_rng (l := l) (lo := 0) (hi := 4611686018427387903) (a := a) (a' := a') (n := n)
  unfold sgnR
  generalize numR l 0 4611686018427387903 a = r at *
  simp -implicitDefEqProofs [i83, r83, rp, e1, rdO]
  refine call_goP h50 ?_
  rintro o H' ho'
  cases r with
  | error e =>
    obtain ⟨rfl, hk⟩ := ho'
    simp -implicitDefEqProofs
    exact ⟨_, _, ⟨rfl, hk⟩, cv_id⟩
  | ok p =>
    obtain ⟨n, a'⟩ := p
    obtain ⟨rfl, rfl⟩ := ho'
    have hn := hrg n a' rfl
    have t1 : n.tdiv 2 = n / 2 := Int.tdiv_eq_ediv_of_nonneg hn.1
    have t2 : n.tmod 2 = n % 2 := Int.tmod_eq_emod_of_nonneg hn.1
    have w1 : IntKind.i64.wrap (n / 2) = n / 2 := wrap_id (by omega) (by omega)
    have w2 : IntKind.i64.wrap (-(n / 2)) = -(n / 2) := wrap_id (by omega) (by omega)
    have w3 : IntKind.i64.wrap (-(n / 2) - 1) = -(n / 2) - 1 := wrap_id (by omega) (by omega)
    simp only []
    by_cases hodd : n % 2 = 1
    · have eu : unz n = -(n / 2) - 1 := if_pos hodd
      rw [eu]
      simp -implicitDefEqProofs [t1, t2, w1, w2, w3, hodd]
      refine call_go (ok70 _ lo hi a) ?_
      by_cases hr : -(n / 2) - 1 < lo ∨ hi < -(n / 2) - 1
      · rw [if_pos hr, if_pos hr]
        simp -implicitDefEqProofs
        exact ⟨_, _, ⟨rfl, Keep.set (by simp) _⟩, cv_id⟩
      · rw [if_neg hr, if_neg hr]
        simp -implicitDefEqProofs
        exact ⟨_, _, ⟨rfl, rfl⟩, cv_id⟩
    · have eu : unz n = n / 2 := if_neg hodd
      rw [eu]
      simp -implicitDefEqProofs [t1, t2, w1, w2, w3, hodd]
      refine call_go (ok70 _ lo hi a) ?_
      by_cases hr : n / 2 < lo ∨ hi < n / 2
      · rw [if_pos hr, if_pos hr]
        simp -implicitDefEqProofs
        exact ⟨_, _, ⟨rfl, Keep.set (by simp) _⟩, cv_id⟩
      · rw [if_neg hr, if_neg hr]
        simp -implicitDefEqProofs
        exact ⟨_, _, ⟨rfl, rfl⟩, cv_id⟩
theorem ok52 (ho : H[j]? = some (rdO l a)) (ha : a ≤ l.length) : Ok Try.prog 52 [rp j] H (if a < l.length then .pan (fltV (4, a)) else .ret (.tup [])) H := by
  have hj := getElem?_lt ho
  have e1 : objCells H j 0 = (rdO l a).cells := objCells_of (o := rdO l a) ho rfl
  refine ok_fn hm Try.func52 c52 (by simp [rp, SV.under, hj]) fun hcl => ?_
  by_cases h : a < l.length
  · rw [if_pos h]
    simp -implicitDefEqProofs [i52, r52, rp, e1, rdO, h]
    refine call_go (ok53 4 a) ?_
    simp -implicitDefEqProofs
    exact cv_id
  · rw [if_neg h]
    simp -implicitDefEqProofs [i52, r52, rp, e1, rdO, h]
    exact cv_id
end
end Go.Proofs.Ytoghpbjllompaaa.Rc

/- P21 -/
namespace Go.Proofs.Ytoghpbjllompaaa.Rc
open Go.Ab
theorem set_hS {H : List AO} {j : Nat} (hj : j < H.length) (L : List AO) (x y : AO) : (H.set j x ++ L).set j y = H.set j y ++ L := by
  rw [List.set_append_left _ _ (by simpa using hj), List.set_set]
theorem Keep.app {H : List AO} {js : List Nat} {j : Nat} (hj : j ∈ js) (o : AO) (L : List AO) : Keep H js (H.set j o ++ L) := by
  refine ⟨by simp, fun i hi hn => ?_⟩
  rw [List.getElem?_append_left (by simpa using hi), List.getElem?_set_ne]
  rintro rfl; exact hn hj
def listR (f : Nat → Except Fl (Int × Nat)) : Nat → Nat → Except Fl (List Int × Nat)
  | 0, a => .ok ([], a)
  | n + 1, a => match f a with
    | .error e => .error e
    | .ok (v, a') => match listR f n a' with
      | .error e => .error e
      | .ok (vs, a'') => .ok (v :: vs, a'')
def preR (vs : List Int) : Except Fl (List Int × Nat) → Except Fl (List Int × Nat)
  | .error e => .error e
  | .ok (ws, a) => .ok (vs ++ ws, a)
theorem preR_nil (r : Except Fl (List Int × Nat)) : preR [] r = r := by cases r <;> rfl
theorem preR_step (f : Nat → Except Fl (Int × Nat)) (n a : Nat) (vs : List Int) : preR vs (listR f (n + 1) a) = match f a with
    | .error e => .error e
    | .ok (v, a') => preR (vs ++ [v]) (listR f n a') := by
  simp only [listR]
  cases f a with
  | error e => rfl
  | ok p =>
    obtain ⟨v, a'⟩ := p
    simp only []
    cases listR f n a' with
    | error e => rfl
    | ok q => obtain ⟨ws, b⟩ := q; simp [preR]
def ndO (k p i : Int) (nx ws ps : SV) : AO := ⟨[i64 k, i64 p, i64 i, nx, ws, ps], 74, 0, true⟩
section
variable {H : List AO} {l : List Int} {jr : Nat}
def sW (H : List AO) (jr : Nat) (l : List Int) (a : Nat) (vs : List Int) (M : List AO) : List AO :=
  H.set jr (rdO l a) ++ ndO 1 0 0 nl (.own (H.length + 1) 0 vs.length 1 vs.length) nl :: ⟨ints vs, 3, vs.length, true⟩ :: M
def sP (H : List AO) (jr : Nat) (l : List Int) (a : Nat) (vs : List Int) (M : List AO) : List AO :=
  H.set jr (rdO l a) ++ ndO 3 0 0 nl nl (.own (H.length + 1) 0 vs.length 1 vs.length) :: ⟨ints vs, 3, vs.length, true⟩ :: M
theorem sgnR_next {l : List Int} {lo hi : Int} {a a' : Nat} {n : Int} (h : sgnR l lo hi a = .ok (n, a')) (ha : a ≤ l.length) : a < a' ∧ a' ≤ l.length := by
  unfold sgnR at h
  split at h
  · cases h
  · rename_i hn
    have := numR_next hn ha
    split at h
    · cases h
    · simp only [Except.ok.injEq, Prod.mk.injEq] at h; omega
theorem loop72_0 (hoct : Oct l) (hl : l.length ≤ 100000) (hj : jr < H.length) {cnt : Nat} (hc : cnt ≤ 1000) {e5 : SV} {r : Except Fl (List Int × Nat)} {N : Nat} {K : XE → Env → List AO → Prop}
    (herr : ∀ e, r = .error e → ∀ env H', Keep H [jr] H' → K (.panic (fltV e)) env H')
    (hexit : ∀ vs a, r = .ok (vs, a) → ∀ env M, env.get 4 = .ptr (.own H.length 0 0 0 0) 0 → env.get 5 = e5 → K (.exit 1) env (sW H jr l a vs M)) :
    ∀ (n i a : Nat) (vs : List Int) (env : Env) (M : List AO), i + n = cnt → a ≤ l.length → vs.length = i → preR vs (listR (numR l 1 1000) n a) = r → env.get 0 = rp jr → env.get 4 = .ptr (.own H.length 0 0 0 0) 0 → env.get 5 = e5 →
      env.get 22 = i64 cnt → env.get 23 = i64 i → LI Try.prog N drawB l72_0 env (sW H jr l a vs M) K := by
  intro n
  induction n with
  | zero =>
    intro i a vs env M hi ha hvs hr h0 h4 h5 h22 h23
    refine li_go hm l72_0.eq_1 ?_
    have e : i = cnt := by omega
    subst e
    have hr : r = .ok (vs, a) := by rw [← hr]; simp [listR, preR]
    simp -implicitDefEqProofs [h0, h4, h5, h22, h23]
    exact hexit vs a hr _ M (by simp [h4]) (by simp [h5])
  | succ n ih =>
    intro i a vs env M hi ha hvs hr h0 h4 h5 h22 h23
    refine li_go hm l72_0.eq_1 ?_
    have hlt : i < cnt := by omega
    have w1 : IntKind.i64.wrap ((i : Int) + 1) = ((i + 1 : Nat) : Int) := wrap_succ (by omega)
    rw [preR_step] at hr
    have h50 := ok50 (H := sW H jr l a vs M) (j := jr) (l := l) (a := a) (by unfold sW; exact get_hS hj _ _) hoct hl ha 1 1000
    have hnx := fun v a' h => numR_next (l := l) (lo := 1) (hi := 1000) (a := a) (a' := a') (n := v) h ha
    generalize numR l 1 1000 a = q at *
    simp only [rp] at h0 h50
    unfold sW at h50 ⊢
    simp -implicitDefEqProofs [h0, h4, h5, h22, h23, hlt, ndO]
    refine call_goP h50 ?_
    rintro o H' ho
    cases q with
    | error e =>
      obtain ⟨rfl, hk⟩ := ho
      simp -implicitDefEqProofs
      exact herr e hr.symm _ _ ((Keep.app (by simp) _ _).trans (hk.mono (by simp)))
    | ok p =>
      obtain ⟨v, a'⟩ := p
      obtain ⟨rfl, rfl⟩ := ho
      have hn := hnx v a' rfl
      rw [set_hS hj]
      simp only [] at hr
      simp -implicitDefEqProofs [h0, h4, h5, h22, h23, ndO, w1]
      repeat (refine And.intro (by omega) ?_)
      refine LI.cong (by simp [sW, ndO, ints]) (ih (i + 1) a' (vs ++ [v]) _ (M ++ [⟨[i64 v], 3, 0, true⟩]) (by omega) hn.2 (by simp; omega) hr ?_ ?_ ?_ ?_ ?_) <;> simp [rp, h4, h5, h22]
theorem loop72_1 (hoct : Oct l) (hl : l.length ≤ 100000) (hj : jr < H.length) {cnt : Nat} (hc : cnt ≤ 1000) {e5 : SV} {r : Except Fl (List Int × Nat)} {N : Nat} {K : XE → Env → List AO → Prop}
    (herr : ∀ e, r = .error e → ∀ env H', Keep H [jr] H' → K (.panic (fltV e)) env H')
    (hexit : ∀ vs a, r = .ok (vs, a) → ∀ env M, env.get 4 = .ptr (.own H.length 0 0 0 0) 0 → env.get 5 = e5 → K (.exit 3) env (sP H jr l a vs M)) :
    ∀ (n i a : Nat) (vs : List Int) (env : Env) (M : List AO), i + n = cnt → a ≤ l.length → vs.length = i → preR vs (listR (sgnR l (-1000000) 1000000) n a) = r → env.get 0 = rp jr → env.get 4 = .ptr (.own H.length 0 0 0 0) 0 → env.get 5 = e5 →
      env.get 68 = i64 cnt → env.get 69 = i64 i → LI Try.prog N drawB l72_1 env (sP H jr l a vs M) K := by
  intro n
  induction n with
  | zero =>
    intro i a vs env M hi ha hvs hr h0 h4 h5 h68 h69
    refine li_go hm l72_1.eq_1 ?_
    have e : i = cnt := by omega
    subst e
    have hr : r = .ok (vs, a) := by rw [← hr]; simp [listR, preR]
    simp -implicitDefEqProofs [h0, h4, h5, h68, h69]
    exact hexit vs a hr _ M (by simp [h4]) (by simp [h5])
  | succ n ih =>
    intro i a vs env M hi ha hvs hr h0 h4 h5 h68 h69
    refine li_go hm l72_1.eq_1 ?_
    have hlt : i < cnt := by omega
    have w1 : IntKind.i64.wrap ((i : Int) + 1) = ((i + 1 : Nat) : Int) := wrap_succ (by omega)
    rw [preR_step] at hr
    have h83 := ok83 (H := sP H jr l a vs M) (j := jr) (l := l) (a := a) (by unfold sP; exact get_hS hj _ _) hoct hl ha (-1000000) 1000000
    have hnx := fun v a' h => sgnR_next (l := l) (lo := -1000000) (hi := 1000000) (a := a) (a' := a') (n := v) h ha
    generalize sgnR l (-1000000) 1000000 a = q at *
    simp only [rp] at h0 h83
    unfold sP at h83 ⊢
    simp -implicitDefEqProofs [h0, h4, h5, h68, h69, hlt, ndO]
    refine call_goP h83 ?_
    rintro o H' ho
    cases q with
    | error e =>
      obtain ⟨rfl, hk⟩ := ho
      simp -implicitDefEqProofs
      exact herr e hr.symm _ _ ((Keep.app (by simp) _ _).trans (hk.mono (by simp)))
    | ok p =>
      obtain ⟨v, a'⟩ := p
      obtain ⟨rfl, rfl⟩ := ho
      have hn := hnx v a' rfl
      rw [set_hS hj]
      simp only [] at hr
      simp -implicitDefEqProofs [h0, h4, h5, h68, h69, ndO, w1]
      repeat (refine And.intro (by omega) ?_)
      refine LI.cong (by simp [sP, ndO, ints]) (ih (i + 1) a' (vs ++ [v]) _ (M ++ [⟨[i64 v], 3, 0, true⟩]) (by omega) hn.2 (by simp; omega) hr ?_ ?_ ?_ ?_ ?_) <;> simp [rp, h4, h5, h68]
end
end Go.Proofs.Ytoghpbjllompaaa.Rc

/- P22 -/
namespace Go.Proofs.Ytoghpbjllompaaa.Rc
open Go.Ab
theorem Keep.pre {H L H' : List AO} {js : List Nat} (h : Keep (H ++ L) js H') : Keep H js H' :=
  ⟨by have := h.len; simp at this; omega, fun i hi hn => (h.at_ i (by simp; omega) hn).trans (List.getElem?_append_left hi)⟩
theorem listR_next {f : Nat → Except Fl (Int × Nat)} {b : Nat} (hf : ∀ a v a', a ≤ b → f a = .ok (v, a') → a < a' ∧ a' ≤ b) : ∀ (n a : Nat) (vs : List Int) (a' : Nat), a ≤ b → listR f n a = .ok (vs, a') → a ≤ a' ∧ a' ≤ b ∧ vs.length = n
  | 0, a, vs, a', ha, h => by simp only [listR, Except.ok.injEq, Prod.mk.injEq] at h; obtain ⟨rfl, rfl⟩ := h; exact ⟨Nat.le_refl _, ha, rfl⟩
  | n + 1, a, vs, a', ha, h => by
    simp only [listR] at h
    split at h
    · cases h
    · rename_i v a1 h1
      have h2 := hf _ _ _ ha h1
      split at h
      · cases h
      · rename_i ws a2 h3
        have h4 := listR_next hf n a1 ws a2 h2.2 h3
        simp only [Except.ok.injEq, Prod.mk.injEq] at h
        obtain ⟨rfl, rfl⟩ := h
        exact ⟨by omega, h4.2.1, by simp [h4.2.2]⟩
def infAt (is : List (Int × Int)) (i : Int) : Int × Int := is.getD i.toNat (0, 0)
def ndR (pl : Int) (is : List (Int × Int)) (l : List Int) (a : Nat) : Except Fl ((Nd × Int) × Nat) :=
  match octR l 0 255 a with
  | .error e => .error e
  | .ok (k, a1) =>
    if k = 1 then match octR l 1 60 a1 with
      | .error e => .error e
      | .ok (m, a2) => match listR (numR l 1 1000) m.toNat a2 with
        | .error e => .error e
        | .ok (ws, a3) => .ok ((⟨1, 0, 0, [], ws, []⟩, m), a3)
    else if k = 2 then match numR l 0 (is.length - 1) a1 with
      | .error e => .error e
      | .ok (i, a2) => .ok ((⟨2, (infAt is i).1, i, [], [], []⟩, (infAt is i).2), a2)
    else if k = 3 then match listR (sgnR l (-1000000) 1000000) pl.toNat a1 with
      | .error e => .error e
      | .ok (ps, a2) => .ok ((⟨3, 0, 0, [], [], ps⟩, 0), a2)
    else .error (3, a)
def ndV (p : Nd × Int) : SV := .tup [.agg [i64 p.1.k, i64 p.1.p, i64 p.1.i, nl, sl p.1.ws, sl p.1.ps], i64 p.2]
def gO (pl : Int) (nv : SV) (is : List (Int × Int)) : AO := ⟨[i64 pl, nv, .slc (infs is) is.length], 25, 0, true⟩
section
variable {H : List AO} {l : List Int} {jr jg a : Nat} {pl : Int} {nv : SV} {is : List (Int × Int)}
theorem ok72 (hoct : Oct l) (hl : l.length ≤ 100000) (hr : H[jr]? = some (rdO l a)) (hg : H[jg]? = some (gO pl nv is)) (hne : jr ≠ jg) (ha : a ≤ l.length) (hpl0 : 0 ≤ pl) (hpl : pl ≤ 4) (his : is.length ≤ 200) :
    OkP Try.prog 72 [rp jr, rp jg] H (RdP H l jr ndV (ndR pl is l a)) := by
  have hj := getElem?_lt hr
  have hjg := getElem?_lt hg
  have e1 : objCells H jr 0 = (rdO l a).cells := objCells_of (o := rdO l a) hr rfl
  refine okP_fn hm Try.func72 c72 (by simp [rp, SV.under, hj, hjg]) fun hcl => ?_
  have h49 := ok49 (H := H ++ [ndO 0 0 0 nl nl nl]) (j := jr) (l := l) (a := a) (by rw [List.getElem?_append_left hj]; exact hr) hoct hl ha 0 255
  have hnx := fun v a' h => octR_next (l := l) (lo := 0) (hi := 255) (a := a) (a' := a') (n := v) h
  unfold ndR
  generalize octR l 0 255 a = q at *
  have e2 := fun L => objCells_app L hj (H := H) (ver := 0)
  have e3 := fun L => objCells_app L hjg (H := H) (ver := 0)
  have e4 : objCells H jg 0 = (gO pl nv is).cells := objCells_of (o := gO pl nv is) hg rfl
  simp only [rp] at h49 ⊢
  simp -implicitDefEqProofs [i72, r72, e1, e2, rdO]
  refine call_goP (OkP.cast (by simp) (by simp [ndO]) h49) ?_
  rintro o H' ho
  cases q with
  | error e =>
    obtain ⟨rfl, hk⟩ := ho
    simp -implicitDefEqProofs
    exact ⟨_, _, ⟨rfl, hk.pre⟩, cv_id⟩
  | ok p =>
    obtain ⟨k, a1⟩ := p
    obtain ⟨rfl, rfl⟩ := ho
    have hn := hnx k a1 rfl
    rw [List.set_append_left _ _ hj]
    simp only []
    have e5 : ∀ (o : AO) (L : List AO), objCells (H.set jr o ++ L) jg 0 = (gO pl nv is).cells := fun o L => by
      rw [objCells_app L (by simpa using hjg)]
      exact objCells_of (o := gO pl nv is) (by rw [List.getElem?_set_ne hne]; exact hg) rfl
    by_cases k1 : k = 1
    · subst k1
      rw [if_pos rfl]
      have h49b := ok49 (H := H.set jr (rdO l a1) ++ [ndO 1 0 0 nl nl nl]) (j := jr) (l := l) (a := a1) (get_hS hj _ _) hoct hl hn.2.1 1 60
      have hnx2 := fun v a' h => octR_next (l := l) (lo := 1) (hi := 60) (a := a1) (a' := a') (n := v) h
      generalize octR l 1 60 a1 = q2 at *
      simp only [rp] at h49b
      simp -implicitDefEqProofs [ndO]
      refine call_goP (OkP.cast (by simp) (by simp [ndO]) h49b) ?_
      rintro o H' ho
      cases q2 with
      | error e =>
        obtain ⟨rfl, hk⟩ := ho
        simp -implicitDefEqProofs
        exact ⟨_, _, ⟨rfl, (Keep.app (by simp) _ _).trans hk⟩, cv_id⟩
      | ok p2 =>
        obtain ⟨m, a2⟩ := p2
        obtain ⟨rfl, rfl⟩ := ho
        have hn2 := hnx2 m a2 rfl
        rw [set_hS hj]
        simp only []
        obtain ⟨c, rfl⟩ : ∃ c : Nat, m = c := ⟨m.toNat, by omega⟩
        have hln := fun vs a' h => listR_next (f := numR l 1 1000) (b := l.length) (fun a v a' ha h => numR_next h ha) c a2 vs a' hn2.2.1 h
        simp only [Int.toNat_natCast]
        generalize hlr : listR (numR l 1 1000) c a2 = lr at *
        simp -implicitDefEqProofs [ndO]
        refine LI.tell (Tell.own0 (j := H.length) (p := 4) (o := ndO 1 0 0 nl nl nl) (by simp [ndO]) rfl rfl 3 1) (LI.cong (H' := sW H jr l a2 [] []) (by simp [sW, ndO, set_app0, ints]) (loop72_0 hoct hl hj (cnt := c) (by omega) (e5 := i64 c) (r := lr) (fun e he env H' hk => ?_) (fun vs a' he env M k4 k5 => ?_) c 0 a2 [] _ [] (by omega) hn2.2.1 rfl (by rw [preR_nil]; exact hlr) ?_ ?_ ?_ ?_ ?_))
        · subst he
          simp -implicitDefEqProofs
          exact ⟨_, _, ⟨rfl, hk⟩, cv_id⟩
        · subst he
          have hlv := (hln vs a' rfl).2.2
          simp -implicitDefEqProofs [sW, ndO, k4, k5]
          refine ⟨rfl, _, H.set jr (rdO l a'), ⟨rfl, rfl⟩, Cv.le (cv_fz 5 (closed_set hcl jr (by simp [rdO])) (by simp) rfl) ?_⟩
          simp [ndV, Nd.cells, sl]
          exact le_tup (leL.cons (le_agg (leL.cons (SV.le.refl _) (leL.cons (SV.le.refl _) (leL.cons (SV.le.refl _) (leL.cons (SV.le.refl _) (leL.cons (SV.le.refl _) (leL.cons le_nil leL.nil))))))) (leL.cons (SV.le.refl _) leL.nil))
        all_goals simp [rp]
    · by_cases k2 : k = 2
      · subst k2
        rw [if_neg (by omega), if_pos rfl]
        have h50 := ok50 (H := H.set jr (rdO l a1) ++ [ndO 2 0 0 nl nl nl]) (j := jr) (l := l) (a := a1) (get_hS hj _ _) hoct hl hn.2.1 0 (is.length - 1)
        have hrg := fun v a' h => numR_rng (l := l) (lo := 0) (hi := is.length - 1) (a := a1) (a' := a') (n := v) h
        generalize numR l 0 (is.length - 1) a1 = q2 at *
        have w1 : IntKind.i64.wrap ((is.length : Int) - 1) = (is.length : Int) - 1 := wrap_id (by omega) (by omega)
        simp only [rp] at h50
        simp -implicitDefEqProofs [ndO, e5, gO, w1]
        refine call_goP (OkP.cast (by simp) (by simp [ndO]) h50) ?_
        rintro o H' ho
        cases q2 with
        | error e =>
          obtain ⟨rfl, hk⟩ := ho
          simp -implicitDefEqProofs
          exact ⟨_, _, ⟨rfl, (Keep.app (by simp) _ _).trans hk⟩, cv_id⟩
        | ok p2 =>
          obtain ⟨i, a2⟩ := p2
          obtain ⟨rfl, rfl⟩ := ho
          have hi := hrg i a2 rfl
          rw [set_hS hj]
          obtain ⟨c, rfl⟩ : ∃ c : Nat, i = c := ⟨i.toNat, by omega⟩
          have hlt : c < is.length := by omega
          have hia : infAt is c = is[c] := by simp [infAt, hlt]
          simp only [hia]
          have hil := infs_len is
          simp -implicitDefEqProofs [ndO, e5, gO, hlt, infs_at hlt, infs_min hlt, infs_ge hlt, infs_g1 hlt]
          repeat (refine And.intro (by omega) ?_)
          refine ⟨rfl, _, H.set jr (rdO l a2), ⟨rfl, rfl⟩, Cv.le (cv_fz 5 (closed_set hcl jr (by simp [rdO])) (by simp) rfl) ?_⟩
          simp [ndV, Nd.cells, sl]
          exact le_tup (leL.cons (le_agg (leL.cons (SV.le.refl _) (leL.cons (SV.le.refl _) (leL.cons (SV.le.refl _) (leL.cons (SV.le.refl _) (leL.cons le_nil (leL.cons le_nil leL.nil))))))) (leL.cons (SV.le.refl _) leL.nil))
      · by_cases k3 : k = 3
        · subst k3
          rw [if_neg (by omega), if_neg (by omega), if_pos rfl]
          obtain ⟨c, rfl⟩ : ∃ c : Nat, pl = c := ⟨pl.toNat, by omega⟩
          have hln := fun vs a' h => listR_next (f := sgnR l (-1000000) 1000000) (b := l.length) (fun a v a' ha h => sgnR_next h ha) c a1 vs a' hn.2.1 h
          simp only [Int.toNat_natCast]
          generalize hlr : listR (sgnR l (-1000000) 1000000) c a1 = lr at *
          simp -implicitDefEqProofs [ndO, e5, gO]
          refine LI.tell (Tell.own0 (j := H.length) (p := 5) (o := ndO 3 0 0 nl nl nl) (by simp [ndO]) rfl rfl 3 1) (LI.cong (H' := sP H jr l a1 [] []) (by simp [sP, ndO, set_app0, ints]) (loop72_1 hoct hl hj (cnt := c) (by omega) (e5 := i64 0) (r := lr) (fun e he env H' hk => ?_) (fun vs a' he env M k4 k5 => ?_) c 0 a1 [] _ [] (by omega) hn.2.1 rfl (by rw [preR_nil]; exact hlr) ?_ ?_ ?_ ?_ ?_))
          · subst he
            simp -implicitDefEqProofs
            exact ⟨_, _, ⟨rfl, hk⟩, cv_id⟩
          · subst he
            have hlv := (hln vs a' rfl).2.2
            simp -implicitDefEqProofs [sP, ndO, k4, k5]
            refine ⟨rfl, _, H.set jr (rdO l a'), ⟨rfl, rfl⟩, Cv.le (cv_fz 5 (closed_set hcl jr (by simp [rdO])) (by simp) rfl) ?_⟩
            simp [ndV, Nd.cells, sl]
            exact le_tup (leL.cons (le_agg (leL.cons (SV.le.refl _) (leL.cons (SV.le.refl _) (leL.cons (SV.le.refl _) (leL.cons (SV.le.refl _) (leL.cons le_nil (leL.cons (SV.le.refl _) leL.nil))))))) (leL.cons (SV.le.refl _) leL.nil))
          all_goals simp [rp]
        · rw [if_neg k1, if_neg k2, if_neg k3]
          simp -implicitDefEqProofs [k1, k2, k3, ndO]
          refine call_go (ok53 3 a) ?_
          simp -implicitDefEqProofs
          exact ⟨_, _, ⟨rfl, Keep.app (by simp) _ _⟩, cv_id⟩
end
end Go.Proofs.Ytoghpbjllompaaa.Rc

/- P23 -/
namespace Go.Proofs.Ytoghpbjllompaaa.Rc
open Go.Ab
def kidsT (w : Nat → Nat → Except Fl (List Nd × Nat)) : Nat → Nat → Nat → Except Fl (List Int × List Nd × Nat)
  | 0, _, a => .ok ([], [], a)
  | k + 1, m, a => match w m a with
    | .error e => .error e
    | .ok (s, a1) => match kidsT w k (m + s.length) a1 with
      | .error e => .error e
      | .ok (nx, sub, a2) => .ok ((m : Int) :: nx, s ++ sub, a2)
def treeR (pl : Int) (is : List (Int × Int)) (l : List Int) : Nat → Nat → Nat → Nat → Except Fl (List Nd × Nat)
  | 0, _, _, a => .error (5, a)
  | f + 1, dep, m, a => if m = 2000 ∨ 40 < dep then .error (5, a) else match ndR pl is l a with
    | .error e => .error e
    | .ok ((x, k), a1) => match kidsT (treeR pl is l f (dep + 1)) k.toNat (m + 1) a1 with
      | .error e => .error e
      | .ok (nx, sub, a2) => .ok ({ x with nx := nx } :: sub, a2)
section
variable {pl : Int} {is : List (Int × Int)} {l : List Int}
theorem ndR_next {a a' : Nat} {x : Nd} {k : Int} (hk : ∀ p ∈ is, 0 ≤ p.2 ∧ p.2 ≤ 60) (h : ndR pl is l a = .ok ((x, k), a')) : a < a' ∧ a' ≤ l.length ∧ x.nx = [] ∧ 0 ≤ k ∧ k ≤ 60 := by
  unfold ndR at h
  split at h
  · cases h
  · rename_i k0 a1 h0
    have h1 := octR_next h0
    split at h
    · split at h
      · cases h
      · rename_i m a2 h2
        have h3 := octR_next h2
        split at h
        · cases h
        · rename_i ws a3 h4
          have h5 := listR_next (f := numR l 1 1000) (b := l.length) (fun a v a' ha h => numR_next h ha) _ _ _ _ h3.2.1 h4
          simp only [Except.ok.injEq, Prod.mk.injEq] at h
          obtain ⟨⟨rfl, rfl⟩, rfl⟩ := h
          exact ⟨by omega, by omega, rfl, by omega, by omega⟩
    · split at h
      · split at h
        · cases h
        · rename_i i a2 h2
          have h3 := numR_next h2 h1.2.1
          have h4 := numR_rng h2
          simp only [Except.ok.injEq, Prod.mk.injEq] at h
          obtain ⟨⟨rfl, rfl⟩, rfl⟩ := h
          have hlt : i.toNat < is.length := by omega
          have h5 := hk _ (List.getElem_mem hlt)
          have e : infAt is i = is[i.toNat] := by simp [infAt, hlt]
          rw [e]
          exact ⟨by omega, by omega, rfl, h5⟩
      · split at h
        · split at h
          · cases h
          · rename_i ps a2 h2
            have h5 := listR_next (f := sgnR l (-1000000) 1000000) (b := l.length) (fun a v a' ha h => sgnR_next h ha) _ _ _ _ h1.2.1 h2
            simp only [Except.ok.injEq, Prod.mk.injEq] at h
            obtain ⟨⟨rfl, rfl⟩, rfl⟩ := h
            exact ⟨by omega, by omega, rfl, by omega, by omega⟩
        · cases h
theorem kidsT_next {w : Nat → Nat → Except Fl (List Nd × Nat)} {b : Nat} (hw : ∀ m a s a', m ≤ 2000 → a ≤ b → w m a = .ok (s, a') → m + s.length ≤ 2000 ∧ a ≤ a' ∧ a' ≤ b ∧ 1 ≤ s.length) :
    ∀ (k m a : Nat) (nx : List Int) (sub : List Nd) (a' : Nat), m ≤ 2000 → a ≤ b → kidsT w k m a = .ok (nx, sub, a') → m + sub.length ≤ 2000 ∧ a ≤ a' ∧ a' ≤ b ∧ nx.length = k
  | 0, m, a, nx, sub, a', hm, ha, h => by simp only [kidsT, Except.ok.injEq, Prod.mk.injEq] at h; obtain ⟨rfl, rfl, rfl⟩ := h; exact ⟨by simpa using hm, Nat.le_refl _, ha, rfl⟩
  | k + 1, m, a, nx, sub, a', hm, ha, h => by
    simp only [kidsT] at h
    split at h
    · cases h
    · rename_i s a1 h1
      have h2 := hw _ _ _ _ hm ha h1
      split at h
      · cases h
      · rename_i nx1 sub1 a2 h3
        have h4 := kidsT_next hw k _ _ _ _ _ h2.1 h2.2.2.1 h3
        simp only [Except.ok.injEq, Prod.mk.injEq] at h
        obtain ⟨rfl, rfl, rfl⟩ := h
        exact ⟨by simp only [List.length_append]; omega, by omega, h4.2.2.1, by simp [h4.2.2.2]⟩
theorem treeR_next (hk : ∀ p ∈ is, 0 ≤ p.2 ∧ p.2 ≤ 60) : ∀ (f dep m a : Nat) (s : List Nd) (a' : Nat), m ≤ 2000 → a ≤ l.length → treeR pl is l f dep m a = .ok (s, a') → m + s.length ≤ 2000 ∧ a ≤ a' ∧ a' ≤ l.length ∧ 1 ≤ s.length
  | 0, dep, m, a, s, a', hm, ha, h => by simp [treeR] at h
  | f + 1, dep, m, a, s, a', hm, ha, h => by
    simp only [treeR] at h
    split at h
    · cases h
    · rename_i h0
      split at h
      · cases h
      · rename_i x k a1 h1
        have h2 := ndR_next hk h1
        split at h
        · cases h
        · rename_i nx sub a2 h3
          have h4 := kidsT_next (w := treeR pl is l f (dep + 1)) (b := l.length) (fun m a s a' hm ha h => treeR_next hk f (dep + 1) m a s a' hm ha h) _ _ _ _ _ _ (by omega) h2.2.1 h3
          simp only [Except.ok.injEq, Prod.mk.injEq] at h
          obtain ⟨rfl, rfl⟩ := h
          exact ⟨by simp only [List.length_cons]; omega, by omega, h4.2.2.1, by simp⟩
end
/-- The state of the walk: reader and game lie in A. -/
structure TS (A : List AO) (jr jg : Nat) (l : List Int) (pl : Int) (is : List (Int × Int)) (a m v : Nat) : Prop where
  r : A[jr]? = some (rdO l a)
  g : A[jg]? = some (gO pl (.own (A.length + 3) 0 m 6 v) is)
  ne : jr ≠ jg
def TT (A : List AO) (jr jg : Nat) (C : List SV) (v : Nat) (L : List AO) : List AO := A ++ ⟨[rp jr], 80, 0, true⟩ :: ⟨[rp jg], 83, 0, true⟩ :: ⟨[.fn (.func 71) [] [rp (A.length + 1), rp A.length, rp (A.length + 2)]], 119, 0, true⟩ :: ⟨C, 74, v, true⟩ :: L
structure Same (A A' : List AO) (jr jg : Nat) : Prop where
  len : A'.length = A.length
  at_ : ∀ i, i ≠ jr → i ≠ jg → A'[i]? = A[i]?
structure PanT (A : List AO) (jr jg : Nat) (H' : List AO) : Prop where
  len : A.length ≤ H'.length
  at_ : ∀ i, i < A.length → i ≠ jr → i ≠ jg → H'[i]? = A[i]?
  g : ∃ c, H'[jg]? = some ⟨c, 25, 0, true⟩ ∧ c.length = 3
def TrP (A : List AO) (jr jg : Nat) (l : List Int) (pl : Int) (is : List (Int × Int)) (m : Nat) (C : List SV) (L : List AO) (r : Except Fl (List Nd × Nat)) (o : Out) (H' : List AO) : Prop :=
  match r with
  | .ok (sub, a') => o = .ret (.tup []) ∧ ∃ A' v', Same A A' jr jg ∧ TS A' jr jg l pl is a' (m + sub.length) v' ∧ H' = TT A' jr jg (C ++ nds sub) v' L
  | .error e => o = .pan (fltV e) ∧ PanT A jr jg H'
section
variable {A : List AO} {jr jg : Nat} {l : List Int} {pl : Int} {is : List (Int × Int)} {a m v : Nat}
theorem Same.refl (A : List AO) (jr jg : Nat) : Same A A jr jg := ⟨rfl, fun _ _ _ => rfl⟩
theorem Same.trans {B C : List AO} (h : Same A B jr jg) (h' : Same B C jr jg) : Same A C jr jg := ⟨h'.len.trans h.len, fun i h1 h2 => (h'.at_ i h1 h2).trans (h.at_ i h1 h2)⟩
theorem Same.setr (o : AO) : Same A (A.set jr o) jr jg := ⟨by simp, fun i h1 _ => List.getElem?_set_ne (fun e => h1 e.symm)⟩
theorem Same.setg (o : AO) : Same A (A.set jg o) jr jg := ⟨by simp, fun i _ h2 => List.getElem?_set_ne (fun e => h2 e.symm)⟩
theorem TS.setr (h : TS A jr jg l pl is a m v) (a' : Nat) : TS (A.set jr (rdO l a')) jr jg l pl is a' m v :=
  ⟨by rw [List.getElem?_set_self (getElem?_lt h.r)], by rw [List.getElem?_set_ne h.ne]; simpa using h.g, h.ne⟩
theorem TS.setg (h : TS A jr jg l pl is a m v) (m' v' : Nat) : TS (A.set jg (gO pl (.own (A.length + 3) 0 m' 6 v') is)) jr jg l pl is a m' v' :=
  ⟨by rw [List.getElem?_set_ne h.ne.symm]; exact h.r, by rw [List.getElem?_set_self (getElem?_lt h.g)]; simp, h.ne⟩
theorem TS.pan (h : TS A jr jg l pl is a m v) (L : List AO) : PanT A jr jg (A ++ L) :=
  ⟨by simp, fun i hi _ _ => List.getElem?_append_left hi, _, by rw [List.getElem?_append_left (getElem?_lt h.g)]; exact h.g, rfl⟩
theorem PanT.same {B H' : List AO} (h : PanT B jr jg H') (hs : Same A B jr jg) : PanT A jr jg H' :=
  ⟨by have := h.len; rw [hs.len] at this; exact this, fun i hi h1 h2 => (h.at_ i (by rw [hs.len]; exact hi) h1 h2).trans (hs.at_ i h1 h2), h.g⟩
theorem TS.keep (h : TS A jr jg l pl is a m v) {L H' : List AO} (hk : Keep (A ++ L) [jr] H') : PanT A jr jg H' := by
  refine ⟨by have := hk.len; simp at this; omega, fun i hi h1 h2 => (hk.at_ i (by simp; omega) (by simpa using h1)).trans (List.getElem?_append_left hi), _, (hk.at_ jg (by have := getElem?_lt h.g; simp; omega) (by simpa using h.ne.symm)).trans (by rw [List.getElem?_append_left (getElem?_lt h.g)]; exact h.g), rfl⟩
theorem TS.eg (h : TS A jr jg l pl is a m v) (L : List AO) : objCells (A ++ L) jg 0 = [i64 pl, .own (A.length + 3) 0 m 6 v, .slc (infs is) is.length] := by
  rw [objCells_app L (getElem?_lt h.g)]; exact objCells_of (o := gO pl _ is) h.g rfl
theorem TS.er (h : TS A jr jg l pl is a m v) (L : List AO) : objCells (A ++ L) jr 0 = [.slc (byts l) l.length, i64 a] := by
  rw [objCells_app L (getElem?_lt h.r)]; exact objCells_of (o := rdO l a) h.r rfl
theorem TS.sg (h : TS A jr jg l pl is a m v) (L : List AO) (f : AO → AO) : Ab.setObj (A ++ L) jg f = A.set jg (f (gO pl (.own (A.length + 3) 0 m 6 v) is)) ++ L := by
  unfold Ab.setObj; rw [List.getElem?_append_left (getElem?_lt h.g), h.g]; simp only; rw [List.set_append_left _ _ (getElem?_lt h.g)]
end
end Go.Proofs.Ytoghpbjllompaaa.Rc

/- P24 -/
namespace Go.Proofs.Ytoghpbjllompaaa.Rc
open Go.Ab
theorem callT {f f' : SV} {args args' : List SV} {H H' : List AO} {K : Out → List AO → Prop} (hf : f = f') (ha : args = args') (hH : H = H') (h : CallTo Try.prog f' args' H' K) : CallTo Try.prog f args H K := by subst hf ha hH; exact h
theorem nds_app : ∀ a b : List Nd, nds (a ++ b) = nds a ++ nds b
  | [], b => rfl
  | x :: a, b => by simp only [List.cons_append, nds, nds_app a b, List.append_assoc]
theorem put3 {C R : List SV} {m : Nat} (hC : C.length = m * 6) (a b c o o' : SV) : (C ++ a :: b :: c :: o :: R).take (m * 6 + 3) ++ o' :: (C ++ a :: b :: c :: o :: R).drop (m * 6 + 3 + 1) = C ++ a :: b :: c :: o' :: R := by
  have e1 : (C ++ a :: b :: c :: o :: R).take (m * 6 + 3) = C ++ [a, b, c] := by
    rw [← hC, List.take_append, List.take_of_length_le (by omega), Nat.add_sub_cancel_left]; rfl
  have e2 : (C ++ a :: b :: c :: o :: R).drop (m * 6 + 3 + 1) = R := by
    rw [← hC, List.drop_append, List.drop_of_length_le (by omega), show C.length + 3 + 1 - C.length = 4 by omega]; rfl
  rw [e1, e2]; simp
theorem get3 {C R : List SV} {m : Nat} (hC : C.length = m * 6) (a b c o : SV) : (C ++ a :: b :: c :: o :: R)[m * 6 + 3]? = some o := by
  rw [← hC, List.getElem?_append_right (by omega), Nat.add_sub_cancel_left]; rfl
theorem nds_cell' : ∀ l : List Nd, cellsOk (nds l)
  | [], s, hs => by simp [nds] at hs
  | x :: r, s, hs => by
    simp only [nds, List.mem_append] at hs
    rcases hs with hs | hs
    · simp only [Nd.cells, List.mem_cons, List.not_mem_nil, or_false] at hs
      rcases hs with rfl | rfl | rfl | rfl | rfl | rfl <;> rfl
    · exact nds_cell' r s hs
section
variable {A : List AO} {jr jg : Nat} {l : List Int} {pl : Int} {is : List (Int × Int)}
/-- The row of nodes while node m is at work. -/
def Cx (C : List SV) (x : Nd) (q : SV) (sub : List Nd) : List SV := C ++ i64 x.k :: i64 x.p :: i64 x.i :: q :: sl x.ws :: sl x.ps :: nds sub
theorem Cx_len (C : List SV) (x : Nd) (q : SV) (sub : List Nd) {m : Nat} (hC : C.length = m * 6) : (Cx C x q sub).length = (m + 1 + sub.length) * 6 := by
  simp only [Cx, List.length_append, List.length_cons, nds_len, hC]; omega
theorem Cx_cell {C : List SV} {x : Nd} {q : SV} {sub : List Nd} (hC : cellsOk C) (hq : q.isCell = true) : cellsOk (Cx C x q sub) := by
  intro s hs
  simp only [Cx, List.mem_append, List.mem_cons] at hs
  rcases hs with hs | rfl | rfl | rfl | rfl | rfl | rfl | hs
  · exact hC s hs
  · rfl
  · rfl
  · rfl
  · exact hq
  · rfl
  · rfl
  · exact nds_cell' _ s hs
theorem loopC71_0 {f dep mm kk : Nat} {x : Nd} {C : List SV} {L : List AO} {F1 F2 : AO} (hC : C.length = mm * 6) (hCo : cellsOk C) (hmm : mm < 2000) (hkk : kk ≤ 60) (hdep : dep ≤ 40) (hkb : ∀ p ∈ is, 0 ≤ p.2 ∧ p.2 ≤ 60)
    (hrec : ∀ (m a v : Nat) (A' : List AO) (C' : List SV) (L' : List AO), m ≤ 2000 → a ≤ l.length → C'.length = m * 6 → cellsOk C' → TS A' jr jg l pl is a m v →
      OkP Try.prog 71 [i64 ((dep + 1 : Nat) : Int), rp (A'.length + 1), rp A'.length, rp (A'.length + 2)] (TT A' jr jg C' v L') (TrP A' jr jg l pl is m C' L' (treeR pl is l f (dep + 1) m a)))
    {r : Except Fl (List Int × List Nd × Nat)} {N : Nat} {K : XE → Env → List AO → Prop}
    (herr : ∀ e, r = .error e → ∀ env H', PanT A jr jg H' → K (.panic (fltV e)) env H')
    (hexit : ∀ nx sub a A' v M, r = .ok (nx, sub, a) → Same A A' jr jg → TS A' jr jg l pl is a (mm + 1 + sub.length) v → ∀ env, K (.exit 0) env (TT A' jr jg (Cx C x (.own (A'.length + (L.length + 6)) 0 nx.length 1 nx.length) sub) v (L ++ F1 :: F2 :: ⟨ints nx, 3, nx.length, true⟩ :: M))) :
    ∀ (n i a v : Nat) (nx : List Int) (sub : List Nd) (A' : List AO) (env : Env) (M : List AO), i + n = kk → nx.length = i → mm + 1 + sub.length ≤ 2000 → a ≤ l.length → Same A A' jr jg → TS A' jr jg l pl is a (mm + 1 + sub.length) v →
      (match kidsT (treeR pl is l f (dep + 1)) n (mm + 1 + sub.length) a with | .error e => Except.error e | .ok (nx', sub', a') => .ok (nx ++ nx', sub ++ sub', a')) = r →
      env.get 0 = i64 dep → env.get 1 = rp (A'.length + 1) → env.get 3 = rp (A'.length + 2) → env.get 5 = i64 mm → env.get 44 = i64 kk → env.get 45 = i64 i →
      LI Try.prog N drawB l71_0 env (TT A' jr jg (Cx C x (.own (A'.length + (L.length + 6)) 0 nx.length 1 nx.length) sub) v (L ++ F1 :: F2 :: ⟨ints nx, 3, nx.length, true⟩ :: M)) K := by
  intro n
  induction n with
  | zero =>
    intro i a v nx sub A' env M hi hnx hmz ha hs hT hr h0 h1 h3 h5 h44 h45
    refine li_go hm l71_0.eq_1 ?_
    have e : i = kk := by omega
    subst e
    have hr : r = .ok (nx, sub, a) := by rw [← hr]; simp [kidsT]
    simp -implicitDefEqProofs [h0, h1, h3, h5, h44, h45]
    exact hexit nx sub a A' v M hr hs hT _
  | succ n ih =>
    intro i a v nx sub A' env M hi hnx hmz ha hs hT hr h0 h1 h3 h5 h44 h45
    refine li_go hm l71_0.eq_1 ?_
    have hlt : i < kk := by omega
    have w1 : IntKind.i64.wrap ((i : Int) + 1) = ((i + 1 : Nat) : Int) := wrap_succ (by omega)
    have w2 : IntKind.i64.wrap ((dep : Int) + 1) = ((dep + 1 : Nat) : Int) := wrap_succ (by omega)
    have hcl := Cx_len C x (.own (A'.length + (L.length + 6)) 0 nx.length 1 nx.length) sub hC
    have g3 := get3 (R := sl x.ws :: sl x.ps :: nds sub) hC (i64 x.k) (i64 x.p) (i64 x.i)
    have p3 := put3 (R := sl x.ws :: sl x.ps :: nds sub) hC (i64 x.k) (i64 x.p) (i64 x.i)
    have hmi : (mm : Int) < ((mm + 1 + sub.length : Nat) : Int) := by omega
    simp only [rp] at h1 h3
    unfold TT Cx
    simp -implicitDefEqProofs [h0, h1, h3, h5, h44, h45, hlt, rp, hT.eg, g3, hC, nds_len]
    repeat (refine And.intro (by omega) ?_)
    simp only [p3 (.own (A'.length + (L.length + 6)) 0 nx.length 1 nx.length) (.own (A'.length + (L.length + 6)) 0 (nx.length + 1) 1 (nx.length + 1)), w2]
    have hcl2 := Cx_len C x (.own (A'.length + (L.length + 6)) 0 (nx.length + 1) 1 (nx.length + 1)) sub hC
    have hrc := hrec (mm + 1 + sub.length) a v A' (Cx C x (.own (A'.length + (L.length + 6)) 0 (nx.length + 1) 1 (nx.length + 1)) sub) (L ++ F1 :: F2 :: ⟨ints (nx ++ [((mm + 1 + sub.length : Nat) : Int)]), 3, nx.length + 1, true⟩ :: (M ++ [⟨[i64 ((mm + 1 + sub.length : Nat) : Int)], 3, 0, true⟩])) hmz ha hcl2 (Cx_cell hCo rfl) hT
    have htn := fun (s : List Nd) (a1 : Nat) (h : treeR pl is l f (dep + 1) (mm + 1 + sub.length) a = .ok (s, a1)) => treeR_next hkb f (dep + 1) (mm + 1 + sub.length) a s a1 hmz ha h
    simp only [kidsT] at hr
    generalize treeR pl is l f (dep + 1) (mm + 1 + sub.length) a = q at *
    have key : ∀ K : Out → List AO → Prop, (∀ o H', TrP A' jr jg l pl is (mm + 1 + sub.length) (Cx C x (.own (A'.length + (L.length + 6)) 0 (nx.length + 1) 1 (nx.length + 1)) sub) (L ++ F1 :: F2 :: ⟨ints (nx ++ [((mm + 1 + sub.length : Nat) : Int)]), 3, nx.length + 1, true⟩ :: (M ++ [⟨[i64 ((mm + 1 + sub.length : Nat) : Int)], 3, 0, true⟩])) q o H' → K o H') →
        CallTo Try.prog (.fn (.func 71) [] [rp (A'.length + 1), rp A'.length, rp (A'.length + 2)]) [i64 ((dep + 1 : Nat) : Int)] (TT A' jr jg (Cx C x (.own (A'.length + (L.length + 6)) 0 (nx.length + 1) 1 (nx.length + 1)) sub) v (L ++ F1 :: F2 :: ⟨ints (nx ++ [((mm + 1 + sub.length : Nat) : Int)]), 3, nx.length + 1, true⟩ :: (M ++ [⟨[i64 ((mm + 1 + sub.length : Nat) : Int)], 3, 0, true⟩]))) K := fun K hK => call_ofP (a := []) (args := [_]) (b := [_, _, _]) hrc hK
    refine callT rfl rfl (by simp [TT, Cx, rp, ints]) (key _ ?_)
    rintro o H' ho
    cases q with
    | error e =>
      obtain ⟨rfl, hp⟩ := ho
      simp -implicitDefEqProofs
      exact herr e hr.symm _ _ (hp.same hs)
    | ok p =>
      obtain ⟨s, a'⟩ := p
      obtain ⟨rfl, A2, v2, hs2, hT2, rfl⟩ := ho
      have hn := htn s a' rfl
      simp only [] at hr
      simp -implicitDefEqProofs [h0, h1, h3, h5, h44, h45, rp, w1]
      refine LI.cong (H' := TT A2 jr jg (Cx C x (.own (A2.length + (L.length + 6)) 0 (nx ++ [((mm + 1 + sub.length : Nat) : Int)]).length 1 (nx ++ [((mm + 1 + sub.length : Nat) : Int)]).length) (sub ++ s)) v2 (L ++ F1 :: F2 :: ⟨ints (nx ++ [((mm + 1 + sub.length : Nat) : Int)]), 3, (nx ++ [((mm + 1 + sub.length : Nat) : Int)]).length, true⟩ :: (M ++ [⟨[i64 ((mm + 1 + sub.length : Nat) : Int)], 3, 0, true⟩]))) (by simp [TT, Cx, nds_app, hs2.len]) (ih (i + 1) a' v2 (nx ++ [((mm + 1 + sub.length : Nat) : Int)]) (sub ++ s) A2 _ _ (by omega) (by simp [hnx]) (by rw [List.length_append]; omega) hn.2.2.1 (hs.trans hs2) (by rw [List.length_append, ← Nat.add_assoc]; exact hT2) ?_ ?_ ?_ ?_ ?_ ?_ ?_)
      · rw [List.length_append, ← Nat.add_assoc, ← hr]
        cases kidsT (treeR pl is l f (dep + 1)) n (mm + 1 + sub.length + s.length) a' with
        | error e => rfl
        | ok z => obtain ⟨z1, z2, z3⟩ := z; simp
      all_goals simp [rp, hs2.len, h5, h44]
end
end Go.Proofs.Ytoghpbjllompaaa.Rc

/- P25 -/
namespace Go.Proofs.Ytoghpbjllompaaa.Rc
open Go.Ab
theorem cl_get {n : Nat} {l : List AO} (h : Cl n l) {i : Nat} {o : AO} (ho : l[i]? = some o) : ∀ s ∈ o.cells, s.under n = true := h o (List.mem_of_getElem? ho)
theorem TT_len (A : List AO) (jr jg : Nat) (C : List SV) (v : Nat) (L : List AO) : (TT A jr jg C v L).length = A.length + (L.length + 4) := by simp [TT]
theorem TT_hu {A A' : List AO} {jr jg : Nat} {C C' : List SV} {v v' : Nat} {L : List AO} {l : List Int} {pl : Int} {is : List (Int × Int)} {a m : Nat} (hcl : closed (TT A jr jg C v L)) (hS : Same A A' jr jg) (hT : TS A' jr jg l pl is a m v') :
    ∀ (i : Nat) (o : AO), i ≠ A'.length + 3 → (TT A' jr jg C' v' L)[i]? = some o → ∀ s ∈ o.cells, s.under (TT A' jr jg C' v' L).length = true := by
  intro i o hi ho s hs
  rw [closed_iff] at hcl
  have hlen : (TT A jr jg C v L).length = (TT A' jr jg C' v' L).length := by rw [TT_len, TT_len, hS.len]
  rw [hlen] at hcl
  by_cases h1 : i < A'.length
  · unfold TT at ho
    rw [List.getElem?_append_left h1] at ho
    by_cases h2 : i = jr
    · subst h2
      rw [hT.r] at ho; cases ho
      simp only [rdO, List.mem_cons, List.not_mem_nil, or_false] at hs
      rcases hs with rfl | rfl <;> simp
    · by_cases h3 : i = jg
      · subst h3
        rw [hT.g] at ho; cases ho
        simp only [gO, List.mem_cons, List.not_mem_nil, or_false] at hs
        rcases hs with rfl | rfl | rfl
        · simp
        · rw [TT_len]; simp [SV.under]
        · simp [infs_under]
      · rw [hS.at_ i h2 h3] at ho
        refine cl_get hcl (i := i) ?_ s hs
        unfold TT; rw [List.getElem?_append_left (by rw [← hS.len]; exact h1)]; exact ho
  · refine cl_get hcl (i := i) ?_ s hs
    unfold TT at ho ⊢
    rw [List.getElem?_append_right (by omega)] at ho
    rw [List.getElem?_append_right (by rw [← hS.len]; omega), ← hS.len]
    obtain ⟨k, hk⟩ : ∃ k, i = A'.length + k := ⟨i - A'.length, by omega⟩
    subst hk
    rw [Nat.add_sub_cancel_left] at ho ⊢
    rcases k with _ | _ | _ | _ | k
    · exact ho
    · exact ho
    · exact ho
    · exact absurd rfl hi
    · exact ho
theorem TT_cv {A A' : List AO} {jr jg : Nat} {C : List SV} {v v' : Nat} {L : List AO} {l : List Int} {pl : Int} {is : List (Int × Int)} {a m mm : Nat} {x : Nd} {nx : List Int} {sub : List Nd} {F1 F2 : AO} {M : List AO} (hC : C.length = mm * 6) (hCo : cellsOk C) (hcl : closed (TT A jr jg C v L)) (hS : Same A A' jr jg) (hT : TS A' jr jg l pl is a m v') (hx : x.nx = []) :
    Cv (A.length + (L.length + 4)) (.tup []) (TT A' jr jg (Cx C x (.own (A'.length + (L.length + 6)) 0 nx.length 1 nx.length) sub) v' (L ++ F1 :: F2 :: ⟨ints nx, 3, nx.length, true⟩ :: M)) (.tup []) (TT A' jr jg (C ++ nds ({ x with nx := nx } :: sub)) v' L) := by
  have hCu : ∀ s ∈ C, s.under (A'.length + (L.length + 4)) = true := by
    have h := closed_iff.1 hcl
    rw [TT_len, ← hS.len] at h
    exact fun s hs => cl_get h (i := A.length + 3) (o := ⟨C, 74, v, true⟩) (by simp [TT]) s hs
  have hmap : (Cx C x (.own (A'.length + (L.length + 6)) 0 nx.length 1 nx.length) sub).map (SV.fz (A'.length + (L.length + 4)) [] (F1 :: F2 :: ⟨ints nx, 3, nx.length, true⟩ :: M) 3) = C ++ nds ({ x with nx := nx } :: sub) := by
    have e1 : C.map (SV.fz (A'.length + (L.length + 4)) [] (F1 :: F2 :: ⟨ints nx, 3, nx.length, true⟩ :: M) 3) = C := by
      conv => rhs; rw [← List.map_id C]
      exact List.map_congr_left fun s hs => fz_under (hCu s hs)
    have e2 : A'.length + (L.length + 6) = A'.length + (L.length + 4) + 2 := by omega
    simp only [Cx, List.map_append, e1, List.map_cons, e2, nds, Nd.cells]
    simp [sl]
  have hres : (TT A' jr jg (C ++ nds ({ x with nx := nx } :: sub)) v' L) = (TT A' jr jg (Cx C x (.own (A'.length + (L.length + 6)) 0 nx.length 1 nx.length) sub) v' L).set (A'.length + 3) ⟨C ++ nds ({ x with nx := nx } :: sub), 74, v', true⟩ := by
    simp [TT, set_app]
  have hlen := TT_len A' jr jg (Cx C x (.own (A'.length + (L.length + 6)) 0 nx.length 1 nx.length) sub) v' L
  have hcok : cellsOk (C ++ nds ({ x with nx := nx } :: sub)) := by
    intro s hs
    rcases List.mem_append.1 hs with hs | hs
    · exact hCo s hs
    · exact nds_cell' _ s hs
  have key := cv_noneM (n0 := A.length + (L.length + 4)) (Hx := TT A' jr jg (Cx C x (.own (A'.length + (L.length + 6)) 0 nx.length 1 nx.length) sub) v' (L ++ F1 :: F2 :: ⟨ints nx, 3, nx.length, true⟩ :: M)) (r := .tup []) 3
    (H0 := TT A' jr jg (Cx C x (.own (A'.length + (L.length + 6)) 0 nx.length 1 nx.length) sub) v' L) (L := F1 :: F2 :: ⟨ints nx, 3, nx.length, true⟩ :: M) (by simp [TT]) (by rw [hlen, hS.len]; exact Nat.le_refl _)
    (Refz.one (j := A'.length + 3) (o := ⟨Cx C x (.own (A'.length + (L.length + 6)) 0 nx.length 1 nx.length) sub, 74, v', true⟩) (TT_hu hcl hS hT) (by simp [TT]) rfl (by rw [hlen]; simp only [hmap]; exact hcok))
  rw [hlen] at key
  simp only [hmap] at key
  rw [hres]
  simpa using key
section
variable {jr jg : Nat} {l : List Int} {pl : Int} {is : List (Int × Int)}
theorem ok71 (hoct : Oct l) (hl : l.length ≤ 100000) (hpl0 : 0 ≤ pl) (hpl : pl ≤ 4) (his : is.length ≤ 200) (hkb : ∀ p ∈ is, 0 ≤ p.2 ∧ p.2 ≤ 60) :
    ∀ (f dep m a v : Nat) (A : List AO) (C : List SV) (L : List AO), dep + f = 42 → m ≤ 2000 → a ≤ l.length → C.length = m * 6 → cellsOk C → TS A jr jg l pl is a m v →
      OkP Try.prog 71 [i64 dep, rp (A.length + 1), rp A.length, rp (A.length + 2)] (TT A jr jg C v L) (TrP A jr jg l pl is m C L (treeR pl is l f dep m a)) := by
  intro f
  induction f with
  | zero =>
    intro dep m a v A C L hf hm2 ha hC hCo hT
    refine okP_fn hm Try.func71 c71 (by simp [rp, SV.under, TT]) fun hcl => ?_
    have hdep : 40 < (dep : Int) := by omega
    by_cases h2 : m = 2000
    · subst h2
      simp -implicitDefEqProofs [i71, r71, TT, rp, hT.eg, hT.er, pickI]
      refine call_go (ok53 5 a) ?_
      simp -implicitDefEqProofs
      exact ⟨_, _, ⟨rfl, hT.pan _⟩, cv_id⟩
    · have h2' : ¬ (m : Int) = 2000 := by omega
      simp -implicitDefEqProofs [i71, r71, TT, rp, hT.eg, hT.er, pickI, hdep, h2, h2']
      refine call_go (ok53 5 a) ?_
      simp -implicitDefEqProofs
      exact ⟨_, _, ⟨rfl, hT.pan _⟩, cv_id⟩
  | succ f ih =>
    intro dep m a v A C L hf hm2 ha hC hCo hT
    refine okP_fn hm Try.func71 c71 (by simp [rp, SV.under, TT]) fun hcl => ?_
    by_cases h2 : m = 2000
    · subst h2
      simp -implicitDefEqProofs [i71, r71, TT, rp, hT.eg, hT.er, pickI]
      refine call_go (ok53 5 a) ?_
      simp -implicitDefEqProofs
      refine ⟨_, _, ?_, cv_id⟩
      simp only [treeR, TrP, true_or, if_true]
      exact ⟨trivial, hT.pan _⟩
    · have h2' : ¬ (m : Int) = 2000 := by omega
      by_cases h3 : 40 < dep
      · have h3' : 40 < (dep : Int) := by omega
        simp -implicitDefEqProofs [i71, r71, TT, rp, hT.eg, hT.er, pickI, h3', h2, h2']
        refine call_go (ok53 5 a) ?_
        simp -implicitDefEqProofs
        refine ⟨_, _, ?_, cv_id⟩
        simp only [treeR, TrP, h3, or_true, if_true]
        exact ⟨trivial, hT.pan _⟩
      · have h3' : ¬ 40 < (dep : Int) := by omega
        have h72 := ok72 (H := TT A jr jg C v L) (jr := jr) (jg := jg) (a := a) (pl := pl) (nv := .own (A.length + 3) 0 m 6 v) (is := is) hoct hl (by unfold TT; rw [List.getElem?_append_left (getElem?_lt hT.r)]; exact hT.r) (by unfold TT; rw [List.getElem?_append_left (getElem?_lt hT.g)]; exact hT.g) hT.ne ha hpl0 hpl his
        have hnx := fun (x : Nd) (k : Int) (a' : Nat) (h : ndR pl is l a = .ok ((x, k), a')) => ndR_next hkb h
        simp only [treeR]
        rw [if_neg (by omega)]
        generalize ndR pl is l a = q at *
        simp only [rp] at h72
        simp -implicitDefEqProofs [i71, r71, TT, rp, hT.eg, hT.er, pickI, h3', h2, h2']
        refine call_goP (OkP.cast rfl (by simp [TT, rp]) h72) ?_
        rintro o H' ho
        cases q with
        | error e =>
          obtain ⟨rfl, hk⟩ := ho
          simp -implicitDefEqProofs
          exact ⟨_, _, ⟨rfl, hT.keep hk⟩, cv_id⟩
        | ok p =>
          obtain ⟨⟨x, k⟩, a1⟩ := p
          obtain ⟨rfl, rfl⟩ := ho
          have hn := hnx x k a1 rfl
          obtain ⟨kk, rfl⟩ : ∃ kk : Nat, k = kk := ⟨k.toNat, by omega⟩
          have hT1 := hT.setr a1
          have hS1 : Same A (A.set jr (rdO l a1)) jr jg := Same.setr _
          have e1 : (TT A jr jg C v L).set jr (rdO l a1) = TT (A.set jr (rdO l a1)) jr jg C v L := by
            unfold TT; rw [List.set_append_left _ _ (getElem?_lt hT.r)]; simp
          rw [e1]
          have hA1 : A.length = (A.set jr (rdO l a1)).length := by simp
          rw [hA1] at *
          generalize A.set jr (rdO l a1) = A1 at *
          simp only [Int.toNat_natCast]
          simp -implicitDefEqProofs [TT, rp, hT1.eg, hT1.er, ndV, sl]
          refine ⟨rfl, by omega, by omega, hC, ?_⟩
          rw [hT1.sg]
          have hT2 := hT1.setg (m + 1) (v + 1)
          have hS2 : Same A (A1.set jg (gO pl (.own (A1.length + 3) 0 (m + 1) 6 (v + 1)) is)) jr jg := hS1.trans (Same.setg _)
          simp -implicitDefEqProofs [gO]
          simp only [gO] at hT2 hS2
          generalize hA2 : A1.set jg ⟨[i64 pl, .own (A1.length + 3) 0 (m + 1) 6 (v + 1), .slc (infs is) is.length], 25, 0, true⟩ = A2 at hT2 hS2 ⊢
          have hl2 : A1.length = A2.length := by rw [← hA2]; simp
          clear hA2
          rw [hl2] at *
          have hg3 : (Cx C x nl [])[m * 6 + 3]? = some nl := get3 (R := [sl x.ws, sl x.ps]) hC _ _ _ _
          have hs3 : (Cx C x nl []).set (m * 6 + 3) (.own (A2.length + (L.length + 6)) 0 0 1 0) = Cx C x (.own (A2.length + (L.length + 6)) 0 0 1 0) [] := by
            simp only [Cx]
            rw [List.set_append_right _ _ (by omega), hC, Nat.add_sub_cancel_left]; rfl
          have hj3 : (TT A2 jr jg (Cx C x nl []) (v + 1) (L ++ [⟨[i64 x.k, i64 x.p, i64 x.i, nl, sl x.ws, sl x.ps], 74, 0, true⟩, ⟨[i64 x.k, i64 x.p, i64 x.i, nl, sl x.ws, sl x.ps], 74, 0, true⟩]))[A2.length + 3]? = some ⟨Cx C x nl [], 74, v + 1, true⟩ := by simp [TT]
          refine LI.cong (H' := TT A2 jr jg (Cx C x nl []) (v + 1) (L ++ [⟨[i64 x.k, i64 x.p, i64 x.i, nl, sl x.ws, sl x.ps], 74, 0, true⟩, ⟨[i64 x.k, i64 x.p, i64 x.i, nl, sl x.ws, sl x.ps], 74, 0, true⟩])) (by simp [TT, Cx, rp, sl, nds]) ?_
          refine LI.tell (Tell.own0 (j := A2.length + 3) (p := m * 6 + 3) (o := ⟨Cx C x nl [], 74, v + 1, true⟩) hj3 rfl hg3 3 1) ?_
          obtain ⟨R, hR⟩ : ∃ R, kidsT (treeR pl is l f (dep + 1)) kk (m + 1) a1 = R := ⟨_, rfl⟩
          rw [hR]
          refine LI.cong (H' := TT A2 jr jg (Cx C x (.own (A2.length + (L.length + 6)) 0 ([] : List Int).length 1 ([] : List Int).length) []) (v + 1) (L ++ (⟨[i64 x.k, i64 x.p, i64 x.i, nl, sl x.ws, sl x.ps], 74, 0, true⟩ : AO) :: (⟨[i64 x.k, i64 x.p, i64 x.i, nl, sl x.ws, sl x.ps], 74, 0, true⟩ : AO) :: (⟨ints ([] : List Int), 3, ([] : List Int).length, true⟩ : AO) :: [])) ?_
            (loopC71_0 (A := A) (A' := A2) (f := f) (dep := dep) (mm := m) (kk := kk) (x := x) (C := C) (L := L) (is := is) (r := R) hC hCo (by omega) (by omega) (by omega) hkb (fun m' a' v' A' C' L' h1 h2 h3 h4 h5 => ih (dep + 1) m' a' v' A' C' L' (by omega) h1 h2 h3 h4 h5)
              (fun e he env H' hp => ?_) (fun nx sub a' A' v' M he hs' hT' env => ?_) kk 0 a1 (v + 1) [] [] _ [] (by omega) rfl (by simp only [List.length_nil]; omega) hn.2.1 hS2 hT2 (by simp only [List.length_nil, Nat.add_zero, hR]; cases R with | error e => rfl | ok z => obtain ⟨z1, z2, z3⟩ := z; simp) ?_ ?_ ?_ ?_ ?_ ?_)
          · simp only [TT_len, List.length_append, List.length_cons, List.length_nil]
            rw [show A2.length + (L.length + (0 + 1 + 1) + 4) = A2.length + (L.length + 6) by omega, hs3]
            simp [TT, ints]
          · subst he
            simp -implicitDefEqProofs
            exact ⟨_, _, ⟨rfl, hp⟩, cv_id⟩
          · subst he
            simp -implicitDefEqProofs
            refine ⟨_, TT A' jr jg (C ++ nds ({ x with nx := nx } :: sub)) v' L, ⟨rfl, A', v', hs', ?_, rfl⟩, ?_⟩
            · have e : m + ({ x with nx := nx } :: sub).length = m + 1 + sub.length := by simp only [List.length_cons]; omega
              rw [e]; exact hT'
            · have := TT_cv (x := x) (nx := nx) (sub := sub) (F1 := ⟨[i64 x.k, i64 x.p, i64 x.i, nl, sl x.ws, sl x.ps], 74, 0, true⟩) (F2 := ⟨[i64 x.k, i64 x.p, i64 x.i, nl, sl x.ws, sl x.ps], 74, 0, true⟩) (M := M) hC hCo hcl hs' hT' hn.2.2.1
              rw [← hS2.len] at this
              exact this
          all_goals simp [rp]
end
end Go.Proofs.Ytoghpbjllompaaa.Rc

/- P26 -/
namespace Go.Proofs.Ytoghpbjllompaaa.Rc
open Go.Ab
/-- What reading all nodes comes to. -/
def TrQ (A : List AO) (jr jg : Nat) (l : List Int) (pl : Int) (is : List (Int × Int)) (r : Except Fl (List Nd × Nat)) (o : Out) (H' : List AO) : Prop :=
  match r with
  | .ok (ns, a') => o = .ret (.tup []) ∧ Same A H' jr jg ∧ H'[jr]? = some (rdO l a') ∧ H'[jg]? = some (gO pl (.slc (nds ns) ns.length) is)
  | .error e => o = .pan (fltV e) ∧ PanT A jr jg H'
section
variable {H : List AO} {l : List Int} {jr jg a : Nat} {pl : Int} {is : List (Int × Int)}
theorem ok51 (hoct : Oct l) (hl : l.length ≤ 100000) (hr : H[jr]? = some (rdO l a)) (hg : H[jg]? = some (gO pl nl is)) (hne : jr ≠ jg) (ha : a ≤ l.length) (hpl0 : 0 ≤ pl) (hpl : pl ≤ 4) (his : is.length ≤ 200) (hkb : ∀ p ∈ is, 0 ≤ p.2 ∧ p.2 ≤ 60) :
    OkP Try.prog 51 [rp jr, rp jg] H (TrQ H jr jg l pl is (treeR pl is l 42 0 0 a)) := by
  have hj := getElem?_lt hr
  have hjg := getElem?_lt hg
  refine okP_fn hm Try.func51 c51 (by simp [rp, SV.under, hj, hjg]) fun hcl => ?_
  have hT : TS (H.set jg (gO pl (.own (H.length + 3) 0 0 6 0) is)) jr jg l pl is a 0 0 := ⟨by rw [List.getElem?_set_ne hne.symm]; exact hr, by rw [List.getElem?_set_self hjg]; simp, hne⟩
  have h71 := ok71 hoct hl hpl0 hpl his hkb 42 0 0 a 0 (H.set jg (gO pl (.own (H.length + 3) 0 0 6 0) is)) [] [] (by omega) (by omega) ha rfl (fun s hs => by simp at hs) hT
  have hS : Same H (H.set jg (gO pl (.own (H.length + 3) 0 0 6 0) is)) jr jg := Same.setg _
  generalize treeR pl is l 42 0 0 a = q at *
  simp -implicitDefEqProofs [i51, r51, rp]
  have htell : Tell [] (H ++ [⟨[rp jr], 80, 0, true⟩, ⟨[rp jg], 83, 0, true⟩, ⟨[.fn (.func 71) [] [rp (H.length + 1), rp H.length, rp (H.length + 2)]], 119, 0, true⟩]) [] (TT (H.set jg (gO pl (.own (H.length + 3) 0 0 6 0) is)) jr jg [] 0 []) := by
    have := Tell.own0 (env := []) (H := H ++ [⟨[rp jr], 80, 0, true⟩, ⟨[rp jg], 83, 0, true⟩, ⟨[.fn (.func 71) [] [rp (H.length + 1), rp H.length, rp (H.length + 2)]], 119, 0, true⟩]) (j := jg) (p := 1) (o := gO pl nl is) (by rw [List.getElem?_append_left hjg]; exact hg) rfl rfl 74 6
    simpa [TT, gO, List.set_append_left _ _ hjg] using this
  have key : ∀ K : Out → List AO → Prop, (∀ o H', TrP (H.set jg (gO pl (.own (H.length + 3) 0 0 6 0) is)) jr jg l pl is 0 [] [] q o H' → K o H') →
      CallTo Try.prog (.fn (.func 71) [] [rp (H.length + 1), rp H.length, rp (H.length + 2)]) [i64 0] (H ++ [⟨[rp jr], 80, 0, true⟩, ⟨[rp jg], 83, 0, true⟩, ⟨[.fn (.func 71) [] [rp (H.length + 1), rp H.length, rp (H.length + 2)]], 119, 0, true⟩]) K := fun K hK =>
    call_ofP (a := []) (args := [_]) (b := [_, _, _]) (OkP.tell htell (by simp [TT]) (by simpa using h71)) hK
  refine callT rfl rfl (by simp [rp]) (key _ ?_)
  rintro o H' ho
  cases q with
  | error e =>
    obtain ⟨rfl, hp⟩ := ho
    simp -implicitDefEqProofs
    exact ⟨_, _, ⟨rfl, hp.same hS⟩, cv_id⟩
  | ok p =>
    obtain ⟨ns, a'⟩ := p
    obtain ⟨rfl, A', v', hs', hT', rfl⟩ := ho
    simp -implicitDefEqProofs
    have hS2 := hS.trans hs'
    refine ⟨_, A'.set jg (gO pl (.slc (nds ns) ns.length) is), ⟨rfl, hS2.trans (Same.setg _), by rw [List.getElem?_set_ne hne.symm]; exact hT'.r, by rw [List.getElem?_set_self (getElem?_lt hT'.g)]⟩, ?_⟩
    have hmap : (gO pl (.own (A'.length + 3) 0 (0 + ns.length) 6 v') is).cells.map (SV.fz A'.length [] [⟨[rp jr], 80, 0, true⟩, ⟨[rp jg], 83, 0, true⟩, ⟨[.fn (.func 71) [] [rp (A'.length + 1), rp A'.length, rp (A'.length + 2)]], 119, 0, true⟩, ⟨nds ns, 74, v', true⟩] 4) = (gO pl (.slc (nds ns) ns.length) is).cells := by
      simp [gO, nds_len, Nat.mul_comm]
      exact List.take_of_length_le (by rw [nds_len]; omega)
    have hcl' := closed_iff.1 hcl
    have k := cv_noneM (n0 := H.length) (Hx := TT A' jr jg ([] ++ nds ns) v' []) (r := .tup []) 4 (H0 := A') (L := [⟨[rp jr], 80, 0, true⟩, ⟨[rp jg], 83, 0, true⟩, ⟨[.fn (.func 71) [] [rp (A'.length + 1), rp A'.length, rp (A'.length + 2)]], 119, 0, true⟩, ⟨nds ns, 74, v', true⟩]) (by simp [TT]) (by rw [hS2.len]; exact Nat.le_refl _)
      (Refz.one (j := jg) (o := gO pl (.own (A'.length + 3) 0 (0 + ns.length) 6 v') is) (fun i o hi ho s hs => by
        by_cases h2 : i = jr
        · subst h2
          rw [hT'.r] at ho; cases ho
          simp only [rdO, List.mem_cons, List.not_mem_nil, or_false] at hs
          rcases hs with rfl | rfl <;> simp
        · rw [hS2.at_ i h2 hi] at ho
          have := cl_get hcl' ho s hs
          rw [hS2.len]; exact this) hT'.g rfl (by
        rw [hmap]
        intro s hs
        simp only [gO, List.mem_cons, List.not_mem_nil, or_false] at hs
        rcases hs with rfl | rfl | rfl <;> rfl))
    rw [hmap] at k
    simpa [gO] using k
/-- The number that four bytes are. -/
def be (n : Int) (l : List Int) : Int := l.foldl (fun s c => s * 256 + c) n
def hdR (b : List Int) : List Int → Nat → Option Nat
  | [], _ => none
  | c :: r, i => if b.getD i 0 ≠ c then some i else hdR b r (i + 1)
def opnR (b : List Int) (c : Int) : Except Fl (List Int) :=
  if 100000 < b.length then .error (4, 100000) else if b.length < 7 then .error (16, b.length) else
    if be 0 (b.drop (b.length - 4)) ≠ sumV (b.take (b.length - 4)) then .error (14, b.length - 4) else
      match hdR b [80, c, 1] 0 with
      | some i => .error (3, i)
      | none => .ok (b.take (b.length - 4))
theorem be_rng : ∀ (l : List Int) (n : Int) (k : Nat), Oct l → 0 ≤ n → n < 256 ^ k → 0 ≤ be n l ∧ be n l < 256 ^ (k + l.length)
  | [], n, k, _, h0, h1 => ⟨h0, h1⟩
  | c :: l, n, k, ho, h0, h1 => by
    have hc := ho c (by simp)
    have := be_rng l (n * 256 + c) (k + 1) (fun x hx => ho x (by simp [hx])) (by omega) (by rw [Int.pow_succ]; omega)
    simp only [be, List.foldl_cons] at this ⊢
    rw [List.length_cons, show k + (l.length + 1) = k + 1 + l.length by omega]
    exact this
theorem be_snoc (l : List Int) (n c : Int) : be n (l ++ [c]) = be n l * 256 + c := by simp [be]
theorem loopC48_0 {t : List Int} (ho : Oct t) (ht : t.length ≤ 4) {e0 e3 e5 : SV} {N : Nat} {K : XE → Env → List AO → Prop}
    (hexit : ∀ env, env.get 0 = e0 → env.get 3 = e3 → env.get 5 = e5 → env.get 6 = i64 (be 0 t) → K (.exit 0) env H) :
    ∀ (n i : Nat) (env : Env), i + n = t.length → env.get 0 = e0 → env.get 3 = e3 → env.get 5 = e5 → env.get 6 = i64 (be 0 (t.take i)) → env.get 26 = .slc (byts t) t.length → env.get 27 = i64 t.length → env.get 28 = i64 i → LI Try.prog N drawB l48_0 env H K := by
  intro n
  induction n with
  | zero =>
    intro i env hi h0 h3 h5 h6 h26 h27 h28
    refine li_go hm l48_0.eq_1 ?_
    have e : i = t.length := by omega
    subst e
    rw [List.take_length] at h6
    generalize be 0 t = bv at *
    simp -implicitDefEqProofs [h0, h3, h5, h6, h26, h27, h28]
    refine hexit _ ?_ ?_ ?_ ?_ <;> simp [h0, h3, h5, h6]
  | succ n ih =>
    intro i env hi h0 h3 h5 h6 h26 h27 h28
    refine li_go hm l48_0.eq_1 ?_
    have hlt : i < t.length := by omega
    have hc := ho _ (List.getElem_mem hlt)
    have w1 : IntKind.i64.wrap ((i : Int) + 1) = ((i + 1 : Nat) : Int) := wrap_succ (by omega)
    have hb := be_rng (t.take i) 0 0 (fun x hx => ho x (List.mem_of_mem_take hx)) (by omega) (by omega)
    have hp : be 0 (t.take i) < 16777216 := by
      have h : (t.take i).length ≤ 3 := by simp; omega
      have hb := hb.2
      generalize (t.take i).length = k at hb h
      generalize be 0 (t.take i) = v at *
      rcases (by omega : k = 0 ∨ k = 1 ∨ k = 2 ∨ k = 3) with rfl | rfl | rfl | rfl <;> simp only [Nat.zero_add] at hb <;> omega
    have w2 : IntKind.i64.wrap (be 0 (t.take i) * 2 ^ min 8 IntKind.i64.bits) = be 0 (t.take i) * 256 := by
      have e : (2 : Int) ^ min 8 IntKind.i64.bits = 256 := by decide
      rw [e]; exact wrap_id (by omega) (by omega)
    have w3 : IntKind.i64.wrap t[i] = t[i] := wrap_id (by omega) (by omega)
    have hbt := byts_at hlt
    obtain ⟨z, hz⟩ : ∃ z, t[i] = z := ⟨_, rfl⟩
    rw [hz] at hbt hc w3
    have w4 : IntKind.i64.wrap (be 0 (t.take i) * 256 + z) = be 0 (t.take (i + 1)) := by
      rw [List.take_succ_eq_append_getElem hlt, be_snoc, hz]
      exact wrap_id (by omega) (by omega)
    have ih := ih (i + 1)
    generalize be 0 (t.take (i + 1)) = n1 at *
    generalize be 0 (t.take i) = n0 at *
    have e8 : (2 : Int) ^ min 8 IntKind.i64.bits = 256 := by decide
    rw [e8] at w2
    simp -implicitDefEqProofs [h0, h3, h5, h6, h26, h27, h28, hlt, hbt, hz, e8, w1, w2, w3, w4]
    repeat (refine And.intro (by omega) ?_)
    refine ih _ (by omega) ?_ ?_ ?_ ?_ ?_ ?_ ?_ <;> simp [h0, h3, h5, h26, h27]
theorem loopC48_1 {b : List Int} {c : Int} (hb : 7 ≤ b.length) (hbl : b.length ≤ 100000) {r : Option Nat} {e5 : SV} {N : Nat} {K : XE → Env → List AO → Prop}
    (herr : ∀ i, r = some i → ∀ env, K (.panic (fltV (3, i))) env H) (hexit : r = none → ∀ env, env.get 0 = .slc (byts b) b.length → env.get 5 = e5 → K (.exit 2) env H) :
    ∀ (n i : Nat) (env : Env), i + n = 3 → hdR b ([80, c, 1].drop i) i = r → env.get 0 = .slc (byts b) b.length → env.get 5 = e5 → env.get 46 = .agg [u8 80, u8 c, u8 1] → env.get 47 = i64 i → LI Try.prog N drawB l48_1 env H K := by
  intro n
  induction n with
  | zero =>
    intro i env hi hr h0 h5 h46 h47
    refine li_go hm l48_1.eq_1 ?_
    have e : i = 3 := by omega
    subst e
    simp -implicitDefEqProofs [h0, h5, h46, h47]
    refine hexit (by rw [← hr]; rfl) _ ?_ ?_ <;> simp [h0, h5]
  | succ n ih =>
    intro i env hi hr h0 h5 h46 h47
    refine li_go hm l48_1.eq_1 ?_
    have hi3 : i < 3 := by omega
    have hlt : i < b.length := by omega
    have hlt3 : i < ([80, c, 1] : List Int).length := by simpa using hi3
    have w1 : IntKind.i64.wrap ((i : Int) + 1) = ((i + 1 : Nat) : Int) := wrap_succ (by omega)
    have hg : ([u8 80, u8 c, u8 1] : List SV)[i]? = some (u8 ([80, c, 1] : List Int)[i]) := by
      rcases i with _ | _ | _ | i
      · rfl
      · rfl
      · rfl
      · omega
    rw [List.drop_eq_getElem_cons hlt3] at hr
    simp only [hdR] at hr
    have hgd : b.getD i 0 = b[i] := by simp [hlt]
    rw [hgd] at hr
    generalize ([80, c, 1] : List Int)[i] = z at hr hg
    have hg' : ∀ h, ([u8 80, u8 c, u8 1] : List SV)[i]'h = u8 z := fun h => by
      have := List.getElem?_eq_getElem h
      rw [hg] at this; exact (Option.some.inj this).symm
    have hi3' : (i : Int) < 3 := by omega
    have hbt := byts_at hlt
    obtain ⟨y, hy⟩ : ∃ y, b[i] = y := ⟨_, rfl⟩
    rw [hy] at hbt hr
    simp -implicitDefEqProofs [h0, h5, h46, h47, hi3, hi3', hlt, hbt, hy, hg, hg']
    repeat (refine And.intro (by omega) ?_)
    by_cases hz : y = z
    · rw [if_neg (by simpa using hz)] at hr
      simp -implicitDefEqProofs [hz, w1]
      refine ih (i + 1) _ (by omega) hr ?_ ?_ ?_ ?_ <;> simp [h0, h5, h46]
    · rw [if_pos hz] at hr
      simp -implicitDefEqProofs [hz]
      refine call_go (ok53 3 i) ?_
      simp -implicitDefEqProofs
      exact herr i hr.symm _
/-- What opening a reader comes to. -/
def OpP (H : List AO) (r : Except Fl (List Int)) (o : Out) (H' : List AO) : Prop :=
  match r with
  | .ok l => o = .ret (rp H.length) ∧ H' = H ++ [rdO l 3]
  | .error e => o = .pan (fltV e) ∧ Keep H [] H'
theorem ok48 {b : List Int} (ho : Oct b) (hlb : b.length < 4611686018427387904) (c : Int) : OkP Try.prog 48 [.slc (byts b) b.length, .agg [u8 80, u8 c, u8 1]] H (OpP H (opnR b c)) := by
  refine okP_fn hm Try.func48 c48 (by simp) fun hcl => ?_
  have hK : Keep H [] (H ++ [⟨[u8 80, u8 c, u8 1], 68, 0, true⟩]) := Keep.pre (L := [⟨[u8 80, u8 c, u8 1], 68, 0, true⟩]) (Keep.refl _ _)
  unfold opnR
  by_cases h1 : 100000 < b.length
  · have h1' : 100000 < (b.length : Int) := by omega
    rw [if_pos h1]
    simp -implicitDefEqProofs [i48, r48, h1']
    refine call_go (ok53 4 100000) ?_
    simp -implicitDefEqProofs
    exact ⟨_, _, ⟨rfl, hK⟩, cv_id⟩
  · have h1' : ¬ 100000 < (b.length : Int) := by omega
    rw [if_neg h1]
    by_cases h2 : b.length < 7
    · have h2' : (b.length : Int) < 7 := by omega
      rw [if_pos h2]
      simp -implicitDefEqProofs [i48, r48, h1', h2']
      refine call_go (ok53 16 b.length) ?_
      simp -implicitDefEqProofs
      exact ⟨_, _, ⟨rfl, hK⟩, cv_id⟩
    · have h2' : ¬ (b.length : Int) < 7 := by omega
      rw [if_neg h2]
      obtain ⟨e, he⟩ : ∃ e : Nat, b.length = e + 4 := ⟨b.length - 4, by omega⟩
      have w1 : IntKind.i64.wrap ((b.length : Int) - 4) = (e : Int) := by rw [wrap_id (by omega) (by omega)]; omega
      have hdr : (byts b).drop e = byts (b.drop e) := byts_drop _ _
      have htl : (b.drop e).length = 4 := by simp; omega
      have ht4 : ((byts b).drop e).take 4 = byts (b.drop e) := by rw [hdr]; exact List.take_of_length_le (by simp; omega)
      have htk : (byts b).take e = byts (b.take e) := byts_take _ _
      have htkl : (b.take e).length = e := by simp; omega
      have hsub : b.length - e = 4 := by omega
      have he4 : b.length - 4 = e := by omega
      rw [he4]
      simp -implicitDefEqProofs [i48, r48, h1', h2', w1, hsub, ht4]
      have hot : Oct (b.drop e) := fun x hx => ho x (List.mem_of_mem_drop hx)
      have hoe : Oct (b.take e) := fun x hx => ho x (List.mem_of_mem_take hx)
      refine ⟨by omega, loopC48_0 (t := b.drop e) hot (by omega) (e0 := .slc (byts b) b.length) (e3 := (SV.own H.length 0 0 0 0).ptr 0) (e5 := i64 e) ?_ 4 0 _ (by omega) ?_ ?_ ?_ ?_ ?_ ?_ ?_⟩
      · intro env h0 h3 h5 h6
        have h20 := ok20 (H := H ++ [⟨[u8 80, u8 c, u8 1], 68, 0, true⟩]) (IsB.slc _ (b.take e)) hoe (by omega)
        rw [htkl, ← htk] at h20
        generalize sumV (b.take e) = sv at *
        generalize be 0 (b.drop e) = bv at *
        simp -implicitDefEqProofs [h0, h3, h5, h6]
        refine ⟨by omega, call_go (by simpa [htk] using h20) ?_⟩
        have heI : (b.length : Int) - 4 = e := by omega
        by_cases hs : bv = sv
        · rw [if_pos hs]
          simp -implicitDefEqProofs [h0, h3, h5, h6, hs]
          refine loopC48_1 (c := c) (r := hdR b [80, c, 1] 0) (e5 := i64 e) (by omega) (by omega) ?_ ?_ 3 0 _ rfl rfl ?_ ?_ ?_ ?_
          · intro i hi env
            rw [hi]
            simp -implicitDefEqProofs
            exact ⟨_, _, ⟨rfl, hK⟩, cv_id⟩
          · intro hi env h0 h5
            rw [hi]
            simp -implicitDefEqProofs [h0, h5]
            refine ⟨by omega, _, _, ⟨rfl, rfl⟩, ?_⟩
            rw [htk]
            refine cv_kp 4 [1] hcl rfl ?_ ?_ ?_
            · unfold SV.fz; simp [SV.under, rp, placeOf]
            · simp [keptOk, fz_byts]
            · simp [keptO, rdO, htkl]
          all_goals simp [h0, h5]
        · rw [if_neg hs]
          simp -implicitDefEqProofs [h0, h3, h5, h6, hs]
          refine call_go (ok53 14 e) ?_
          simp -implicitDefEqProofs
          rw [heI]
          exact ⟨_, _, ⟨rfl, hK⟩, cv_id⟩
      all_goals simp [htl, be]
end
end Go.Proofs.Ytoghpbjllompaaa.Rc

/- P27 -/
namespace Go.Proofs.Ytoghpbjllompaaa.Rc
open Go.Ab
def flO (e : Fl) : AO := ⟨[i64 e.1, i64 e.2], 47, 0, true⟩
section
variable {H : List AO} {f g : Nat} {e0 e : Fl}
theorem ok47n (hf : H[f]? = some (flO e0)) : Ok Try.prog 47 [.val .nilIface, rp f] H (.ret (.tup [])) H := by
  have hj := getElem?_lt hf
  refine ok_fn hm Try.func47 c47 (by simp [rp, SV.under, hj]) fun hcl => ?_
  simp -implicitDefEqProofs [i47, r47, rp, SV.isIf, SV.ifNil]
  exact cv_id
theorem ok47e (hf : H[f]? = some (flO e0)) : Ok Try.prog 47 [fltV e, rp f] H (.ret (.tup [])) (H.set f (flO e)) := by
  have hj := getElem?_lt hf
  have e1 : objCells H f 0 = (flO e0).cells := objCells_of (o := flO e0) hf rfl
  have e2 : ∀ g : AO → AO, Ab.setObj H f g = H.set f (g (flO e0)) := fun g => setObj_some hf g
  have e3 : objCells (H.set f (flO (13, 0))) f 0 = (flO (13, 0)).cells := objCells_of (o := flO (13, 0)) (by rw [List.getElem?_set_self hj]) rfl
  simp only [flO] at e1 e2 e3
  refine ok_fn hm Try.func47 c47 (by simp [rp, SV.under, hj, fltV]) fun hcl => ?_
  simp -implicitDefEqProofs [i47, r47, rp, fltV, e1, e2, e3, SV.isIf, SV.ifNil, SV.ifIs, SV.ifVal, flO]
  have e4 : objCells (H.set f ⟨[i64 13, i64 0], 47, 0, true⟩ ++ [(⟨[i64 e.1, i64 e.2], 47, 0, true⟩ : AO)]) f 0 = [i64 13, i64 0] := by rw [objCells_app _ (by simpa using hj)]; exact e3
  have e5 : ∀ h : AO → AO, Ab.setObj (H.set f ⟨[i64 13, i64 0], 47, 0, true⟩ ++ [(⟨[i64 e.1, i64 e.2], 47, 0, true⟩ : AO)]) f h = H.set f (h ⟨[i64 13, i64 0], 47, 0, true⟩) ++ [⟨[i64 e.1, i64 e.2], 47, 0, true⟩] := fun h => by
    rw [setObj_some (o := ⟨[i64 13, i64 0], 47, 0, true⟩) (by rw [List.getElem?_append_left (by simpa using hj), List.getElem?_set_self hj])]
    rw [List.set_append_left _ _ (by simpa using hj), List.set_set]
  rw [e4, e5]
  refine ⟨by simp, ?_⟩
  exact cv_drop rfl (by simp) (closed_iff.2 fun o ho s hs => by
    rcases List.mem_or_eq_of_mem_set ho with ho | rfl
    · have := closed_iff.1 hcl o ho s hs; simpa using this
    · simp at hs; rcases hs with rfl | rfl <;> rfl) rfl
theorem okD46n (hf : H[f]? = some (flO (0, e0.2))) (hg : g < H.length) : OkD Try.prog 46 [rp f, rp g] H none (fun H' => H' = H) := by
  have hj := getElem?_lt hf
  have e1 : objCells H f 0 = (flO (0, e0.2)).cells := objCells_of (o := flO (0, e0.2)) hf rfl
  refine okD_rc hm Try.func46 c46 (by rfl) fun hcl => ?_
  simp -implicitDefEqProofs [i46s, i46, rp, rvD]
  refine call_go (ok47n hf) ?_
  simp -implicitDefEqProofs [e1, flO, rp]
  exact cv_id
theorem okD46e (hf : H[f]? = some (flO e0)) {c : List SV} (hg : H[g]? = some ⟨c, 25, 0, true⟩) (hc : c.length = 3) (hne : f ≠ g) (he : e.1 ≠ 0) :
    OkD Try.prog 46 [rp f, rp g] H (some (fltV e)) (fun H' => H' = (H.set f (flO e)).set g ⟨[i64 0, nl, nl], 25, 0, true⟩) := by
  have hj := getElem?_lt hf
  have hjg := getElem?_lt hg
  have e1 : objCells (H.set f (flO e)) f 0 = (flO e).cells := objCells_of (o := flO e) (by rw [List.getElem?_set_self hj]) rfl
  have e3 : objCells (H.set f (flO e)) g 0 = c := objCells_of (o := ⟨c, 25, 0, true⟩) (by rw [List.getElem?_set_ne hne]; exact hg) rfl
  have e2 : ∀ h : AO → AO, Ab.setObj (H.set f (flO e)) g h = (H.set f (flO e)).set g (h ⟨c, 25, 0, true⟩) := fun h => setObj_some (by rw [List.getElem?_set_ne hne]; exact hg) h
  refine okD_rc hm Try.func46 c46 (by rfl) fun hcl => ?_
  simp -implicitDefEqProofs [i46s, i46, rp, rvD]
  refine call_go (by simpa [rp] using ok47e (e := e) hf) ?_
  simp only [flO] at e1 e2 e3
  simp -implicitDefEqProofs [e1, e2, e3, flO, rp, he, hc]
  refine ⟨rfl, ?_⟩
  rw [List.drop_of_length_le (by omega)]
  exact cv_id
theorem okD62n (hf : H[f]? = some (flO (0, e0.2))) (hg : g < H.length) : OkD Try.prog 62 [rp f, rp g] H none (fun H' => H' = H) := by
  have hj := getElem?_lt hf
  have e1 : objCells H f 0 = (flO (0, e0.2)).cells := objCells_of (o := flO (0, e0.2)) hf rfl
  refine okD_rc hm Try.func62 c62 (by rfl) fun hcl => ?_
  simp -implicitDefEqProofs [i62s, i62, rp, rvD]
  refine call_go (ok47n hf) ?_
  simp -implicitDefEqProofs [e1, flO, rp]
  exact cv_id
theorem okD62e (hf : H[f]? = some (flO e0)) {c : List SV} (hg : H[g]? = some ⟨c, 28, 0, true⟩) (hc : c.length = 2) (hne : f ≠ g) (he : e.1 ≠ 0) :
    OkD Try.prog 62 [rp f, rp g] H (some (fltV e)) (fun H' => H' = (H.set f (flO e)).set g ⟨[i64 0, nl], 28, 0, true⟩) := by
  have hj := getElem?_lt hf
  have hjg := getElem?_lt hg
  have e1 : objCells (H.set f (flO e)) f 0 = (flO e).cells := objCells_of (o := flO e) (by rw [List.getElem?_set_self hj]) rfl
  have e3 : objCells (H.set f (flO e)) g 0 = c := objCells_of (o := ⟨c, 28, 0, true⟩) (by rw [List.getElem?_set_ne hne]; exact hg) rfl
  have e2 : ∀ h : AO → AO, Ab.setObj (H.set f (flO e)) g h = (H.set f (flO e)).set g (h ⟨c, 28, 0, true⟩) := fun h => setObj_some (by rw [List.getElem?_set_ne hne]; exact hg) h
  refine okD_rc hm Try.func62 c62 (by rfl) fun hcl => ?_
  simp -implicitDefEqProofs [i62s, i62, rp, rvD]
  refine call_go (by simpa [rp] using ok47e (e := e) hf) ?_
  simp only [flO] at e1 e2 e3
  simp -implicitDefEqProofs [e1, e2, e3, flO, rp, he, hc]
  refine ⟨rfl, ?_⟩
  rw [List.drop_of_length_le (by omega)]
  exact cv_id
/-- What is left when something was thrown. -/
structure PanG (H : List AO) (T n : Nat) (H' : List AO) : Prop where
  at_ : ∀ i, i < H.length → H'[i]? = H[i]?
  len : H.length + 2 ≤ H'.length
  g : ∃ c, H'[H.length]? = some ⟨c, T, 0, true⟩ ∧ c.length = n
  f : H'[H.length + 1]? = some (flO (0, 0))
theorem PanG.keep {T n : Nat} {c : List SV} {L H' : List AO} {js : List Nat} (h : Keep (H ++ ⟨c, T, 0, true⟩ :: flO (0, 0) :: L) js H') (hj : ∀ j ∈ js, H.length + 2 ≤ j) (hc : c.length = n) : PanG H T n H' := by
  have hnot : ∀ i, i < H.length + 2 → i ∉ js := fun i hi hm => by have := hj i hm; omega
  refine ⟨fun i hi => (h.at_ i (by simp; omega) (hnot i (by omega))).trans (List.getElem?_append_left hi), by have := h.len; simp at this; omega, ⟨c, ?_, hc⟩, ?_⟩
  · rw [h.at_ H.length (by simp) (hnot _ (by omega))]; simp
  · rw [h.at_ (H.length + 1) (by simp) (hnot _ (by omega))]; simp
theorem PanG.panT {c : List SV} {L H' : List AO} (h : PanT (H ++ ⟨c, 25, 0, true⟩ :: flO (0, 0) :: L) (H.length + 2) H.length H') : PanG H 25 3 H' := by
  refine ⟨fun i hi => (h.at_ i (by simp; omega) (by omega) (by omega)).trans (List.getElem?_append_left hi), by have := h.len; simp at this; omega, h.g, ?_⟩
  rw [h.at_ (H.length + 1) (by simp) (by omega) (by omega)]; simp
end
end Go.Proofs.Ytoghpbjllompaaa.Rc

/- P28 -/
namespace Go.Proofs.Ytoghpbjllompaaa.Rc
open Go.Ab
def infR (pl : Int) (l : List Int) (a : Nat) : Except Fl ((Int × Int) × Nat) :=
  match octR l 0 (pl - 1) a with
  | .error e => .error e
  | .ok (k, a1) => match octR l 1 10 a1 with
    | .error e => .error e
    | .ok (n, a2) => .ok ((k, n), a2)
def infsR (pl : Int) (l : List Int) : Nat → Nat → Except Fl (List (Int × Int) × Nat)
  | 0, a => .ok ([], a)
  | n + 1, a => match infR pl l a with
    | .error e => .error e
    | .ok (v, a') => match infsR pl l n a' with
      | .error e => .error e
      | .ok (vs, a'') => .ok (v :: vs, a'')
def preI (vs : List (Int × Int)) : Except Fl (List (Int × Int) × Nat) → Except Fl (List (Int × Int) × Nat)
  | .error e => .error e
  | .ok (ws, a) => .ok (vs ++ ws, a)
theorem preI_nil (r : Except Fl (List (Int × Int) × Nat)) : preI [] r = r := by cases r <;> rfl
theorem preI_step (pl : Int) (l : List Int) (n a : Nat) (vs : List (Int × Int)) : preI vs (infsR pl l (n + 1) a) = match infR pl l a with
    | .error e => .error e
    | .ok (v, a') => preI (vs ++ [v]) (infsR pl l n a') := by
  simp only [infsR]
  cases infR pl l a with
  | error e => rfl
  | ok p =>
    obtain ⟨v, a'⟩ := p
    simp only []
    cases infsR pl l n a' with
    | error e => rfl
    | ok q => obtain ⟨ws, b⟩ := q; simp [preI]
theorem infs_snoc (is : List (Int × Int)) (k n : Int) : infs (is ++ [(k, n)]) = infs is ++ [i64 k, i64 n] := by
  induction is with
  | nil => rfl
  | cons x r ih => simp [infs, ih]
def sI (H : List AO) (l : List Int) (a : Nat) (pl : Int) (is : List (Int × Int)) (M : List AO) : List AO :=
  H ++ ⟨[i64 pl, nl, .own (H.length + 3) 0 is.length 2 is.length], 25, 0, true⟩ :: flO (0, 0) :: rdO l a :: ⟨infs is, 72, is.length, true⟩ :: M
section
variable {H : List AO} {l : List Int}
theorem sI_r {a : Nat} {pl : Int} {is : List (Int × Int)} {M : List AO} : (sI H l a pl is M)[H.length + 2]? = some (rdO l a) := by simp [sI]
theorem sI_set {a a' : Nat} {pl : Int} {is : List (Int × Int)} {M : List AO} : (sI H l a pl is M).set (H.length + 2) (rdO l a') = sI H l a' pl is M := by simp [sI]
theorem sI_pan {a : Nat} {pl : Int} {is : List (Int × Int)} {M H' : List AO} (h : Keep (sI H l a pl is M) [H.length + 2] H') : PanG H 25 3 H' := PanG.keep h (by simp) rfl
theorem loop24 (hoct : Oct l) (hl : l.length ≤ 100000) {pl : Int} (hpl : 1 ≤ pl ∧ pl ≤ 4) {cnt : Nat} (hc : cnt ≤ 1000) {r : Except Fl (List (Int × Int) × Nat)} {N : Nat} {K : XE → Env → List AO → Prop}
    (herr : ∀ e, r = .error e → ∀ env H', env.get 2 = rp H.length → env.get 3 = rp (H.length + 1) → PanG H 25 3 H' → K (.panic (fltV e)) env H')
    (hexit : ∀ is a, r = .ok (is, a) → ∀ env M, env.get 2 = rp H.length → env.get 3 = rp (H.length + 1) → env.get 4 = rp (H.length + 2) → K (.exit 0) env (sI H l a pl is M)) :
    ∀ (n i a : Nat) (is : List (Int × Int)) (env : Env) (M : List AO), i + n = cnt → a ≤ l.length → is.length = i → preI is (infsR pl l n a) = r → env.get 2 = rp H.length → env.get 3 = rp (H.length + 1) → env.get 4 = rp (H.length + 2) →
      env.get 15 = i64 cnt → env.get 16 = i64 i → LI Try.prog N drawB l24_0 env (sI H l a pl is M) K := by
  intro n
  induction n with
  | zero =>
    intro i a is env M hi ha his hr h2 h3 h4 h15 h16
    refine li_go hm l24_0.eq_1 ?_
    have e : i = cnt := by omega
    subst e
    have hr : r = .ok (is, a) := by rw [← hr]; simp [infsR, preI]
    simp -implicitDefEqProofs [h2, h3, h4, h15, h16]
    exact hexit is a hr _ M (by simp [h2]) (by simp [h3]) (by simp [h4])
  | succ n ih =>
    intro i a is env M hi ha his hr h2 h3 h4 h15 h16
    refine li_go hm l24_0.eq_1 ?_
    have hlt : i < cnt := by omega
    have w1 : IntKind.i64.wrap ((i : Int) + 1) = ((i + 1 : Nat) : Int) := wrap_succ (by omega)
    have w2 : IntKind.i64.wrap (pl - 1) = pl - 1 := wrap_id (by omega) (by omega)
    rw [preI_step] at hr
    unfold infR at hr
    have h49 := ok49 (H := sI H l a pl is M) (j := H.length + 2) (l := l) (a := a) sI_r hoct hl ha 0 (pl - 1)
    have hnx := fun v a' h => octR_next (l := l) (lo := 0) (hi := pl - 1) (a := a) (a' := a') (n := v) h
    generalize octR l 0 (pl - 1) a = q at *
    simp only [rp] at h2 h3 h4 h49
    have eg : objCells (sI H l a pl is M) H.length 0 = [i64 pl, nl, .own (H.length + 3) 0 is.length 2 is.length] := by simp [sI]
    simp -implicitDefEqProofs [h2, h3, h4, h15, h16, hlt, w2, eg]
    refine call_goP h49 ?_
    rintro o H' ho
    cases q with
    | error e =>
      obtain ⟨rfl, hk⟩ := ho
      simp -implicitDefEqProofs
      exact herr e hr.symm _ _ (by simp [h2, rp]) (by simp [h3, rp]) (sI_pan hk)
    | ok p =>
      obtain ⟨k, a1⟩ := p
      obtain ⟨rfl, rfl⟩ := ho
      have hn := hnx k a1 rfl
      rw [sI_set]
      simp only [] at hr
      have h49 := ok49 (H := sI H l a1 pl is M) (j := H.length + 2) (l := l) (a := a1) sI_r hoct hl hn.2.1 1 10
      have hnx := fun v a' h => octR_next (l := l) (lo := 1) (hi := 10) (a := a1) (a' := a') (n := v) h
      generalize octR l 1 10 a1 = q at *
      simp only [rp] at h49
      have eg : objCells (sI H l a1 pl is M) H.length 0 = [i64 pl, nl, .own (H.length + 3) 0 is.length 2 is.length] := by simp [sI]
      simp -implicitDefEqProofs [h2, h3, h4, h15, h16, eg]
      refine call_goP h49 ?_
      rintro o H' ho
      cases q with
      | error e =>
        obtain ⟨rfl, hk⟩ := ho
        simp -implicitDefEqProofs
        exact herr e hr.symm _ _ (by simp [h2, rp]) (by simp [h3, rp]) (sI_pan hk)
      | ok p =>
        obtain ⟨m, a2⟩ := p
        obtain ⟨rfl, rfl⟩ := ho
        have hn2 := hnx m a2 rfl
        rw [sI_set]
        simp only [] at hr
        have eg : objCells (sI H l a2 pl is M) H.length 0 = [i64 pl, nl, .own (H.length + 3) 0 is.length 2 is.length] := by simp [sI]
        have il := infs_len is
        unfold sI
        simp -implicitDefEqProofs [h2, h3, h4, h15, h16, w1, il]
        repeat (refine And.intro (by omega) ?_)
        refine LI.cong (by simp [sI, infs_snoc]) (ih (i + 1) a2 (is ++ [(k, m)]) _ (M ++ [⟨[i64 k, i64 m], 72, 0, true⟩]) (by omega) hn2.2.1 (by simp; omega) hr ?_ ?_ ?_ ?_ ?_) <;> simp [rp, h2, h3, h4, h15]
end
end Go.Proofs.Ytoghpbjllompaaa.Rc

/- P29 -/
namespace Go.Proofs.Ytoghpbjllompaaa.Rc
open Go.Ab
def readG (b : List Int) : Except Fl Gm :=
  match opnR b 71 with
  | .error e => .error e
  | .ok l => match octR l 1 4 3 with
    | .error e => .error e
    | .ok (pl, a1) => match numR l 0 200 a1 with
      | .error e => .error e
      | .ok (n, a2) => match infsR pl l n.toNat a2 with
        | .error e => .error e
        | .ok (is, a3) => match treeR pl is l 42 0 0 a3 with
          | .error e => .error e
          | .ok (ns, a4) => if a4 < l.length then .error (4, a4) else if Gm.formE ⟨pl, ns, is⟩ ≠ 0 then .error (Gm.formE ⟨pl, ns, is⟩, l.length) else .ok ⟨pl, ns, is⟩
def gOf : Except Fl Gm → Gm
  | .ok g => g
  | .error _ => ⟨0, [], []⟩
def fOf {α : Type} : Except Fl α → Fl
  | .ok _ => (0, 0)
  | .error e => e
def RgP (H : List AO) (r : Except Fl Gm) (o : Out) (H' : List AO) : Prop := o = .ret (.tup [.agg (gOf r).cells, .agg [i64 (fOf r).1, i64 (fOf r).2]]) ∧ H' = H
theorem pre_split {H H' : List AO} (hl : H.length ≤ H'.length) (h : ∀ i, i < H.length → H'[i]? = H[i]?) : ∃ L, H' = H ++ L := by
  refine ⟨H'.drop H.length, ?_⟩
  conv => lhs; rw [← List.take_append_drop H.length H']
  congr 1
  apply List.ext_getElem?
  intro i
  by_cases hi : i < H.length
  · rw [List.getElem?_take_of_lt hi, h i hi]
  · rw [List.getElem?_eq_none (by simp; omega), List.getElem?_eq_none (by omega)]
section
variable {H : List AO}
theorem fin24e {H1 : List AO} {env : Env} {e : Fl} (hcl : closed H) (hp : PanG H 25 3 H1) (he : e.1 ≠ 0) (h2 : env.get 2 = rp H.length) (h3 : env.get 3 = rp (H.length + 1)) :
    FinD Try.prog H.length r24 (RgP H (.error e)) 46 [rp (H.length + 1), rp H.length] (.panic (fltV e)) env H1 := by
  obtain ⟨c, hg, hc⟩ := hp.g
  have hlen := hp.len
  refine ⟨_, okD46e hp.f hg hc (by omega) he, ?_⟩
  rintro H4 rfl
  obtain ⟨L, hL⟩ := pre_split (H := H) (H' := (H1.set (H.length + 1) (flO e)).set H.length ⟨[i64 0, nl, nl], 25, 0, true⟩) (by simp; omega) (fun i hi => by
    rw [List.getElem?_set_ne (by omega), List.getElem?_set_ne (by omega)]; exact hp.at_ i hi)
  have e1 : objCells ((H1.set (H.length + 1) (flO e)).set H.length ⟨[i64 0, nl, nl], 25, 0, true⟩) H.length 0 = [i64 0, nl, nl] := objCells_of (o := ⟨[i64 0, nl, nl], 25, 0, true⟩) (by rw [List.getElem?_set_self (by simp; omega)]) rfl
  have e2 : objCells ((H1.set (H.length + 1) (flO e)).set H.length ⟨[i64 0, nl, nl], 25, 0, true⟩) (H.length + 1) 0 = [i64 e.1, i64 e.2] := objCells_of (o := flO e) (by rw [List.getElem?_set_ne (by omega), List.getElem?_set_self (by omega)]) rfl
  refine ⟨?_, _, H, ⟨rfl, rfl⟩, ?_⟩
  · intro s hs
    simp only [r24, List.mem_cons, List.not_mem_nil, or_false] at hs
    rcases hs with rfl | rfl
    · simp [RS.side, h2, rp, e1]
    · simp [RS.side, h3, rp, e2]
  · have hr : resV env ((H1.set (H.length + 1) (flO e)).set H.length ⟨[i64 0, nl, nl], 25, 0, true⟩) r24 = .tup [.agg [i64 0, nl, nl], .agg [i64 e.1, i64 e.2]] := by
      simp [resV, r24, RS.ev, h2, h3, rp, e1, e2]
    rw [hr, hL]
    refine Cv.le (cv_drop rfl (Nat.le_refl _) hcl rfl) (le_tup (leL.cons (le_agg ?_) (leL.cons (SV.le.refl _) leL.nil)))
    exact leL.cons (SV.le.refl _) (leL.cons le_nil (leL.cons le_nil leL.nil))
theorem opnR_err {b : List Int} {c : Int} {e : Fl} (h : opnR b c = .error e) : e.1 ≠ 0 := by
  unfold opnR at h
  split at h
  · cases h; simp
  · split at h
    · cases h; simp
    · split at h
      · cases h; simp
      · split at h
        · cases h; simp
        · cases h
theorem octR_err {l : List Int} {lo hi : Int} {a : Nat} {e : Fl} (h : octR l lo hi a = .error e) : e.1 ≠ 0 := by
  unfold octR at h
  split at h
  · cases h; simp
  · split at h
    · cases h; simp
    · cases h
theorem numR_err {l : List Int} {lo hi : Int} {a : Nat} {e : Fl} (h : numR l lo hi a = .error e) : e.1 ≠ 0 := by
  unfold numR at h
  split at h
  · cases h; assumption
  · split at h
    · cases h; simp
    · cases h
theorem sgnR_err {l : List Int} {lo hi : Int} {a : Nat} {e : Fl} (h : sgnR l lo hi a = .error e) : e.1 ≠ 0 := by
  unfold sgnR at h
  split at h
  · rename_i h1; cases h; exact numR_err h1
  · split at h
    · cases h; simp
    · cases h
theorem listR_err {f : Nat → Except Fl (Int × Nat)} (hf : ∀ a e, f a = .error e → e.1 ≠ 0) : ∀ (n a : Nat) (e : Fl), listR f n a = .error e → e.1 ≠ 0
  | 0, a, e, h => by cases h
  | n + 1, a, e, h => by
    simp only [listR] at h
    split at h
    · rename_i h1; cases h; exact hf _ _ h1
    · split at h
      · rename_i h1; cases h; exact listR_err hf _ _ _ h1
      · cases h
theorem infsR_err {pl : Int} {l : List Int} : ∀ (n a : Nat) (e : Fl), infsR pl l n a = .error e → e.1 ≠ 0
  | 0, a, e, h => by cases h
  | n + 1, a, e, h => by
    simp only [infsR] at h
    split at h
    · rename_i h1
      cases h
      unfold infR at h1
      split at h1
      · rename_i h2; cases h1; exact octR_err h2
      · split at h1
        · rename_i h2; cases h1; exact octR_err h2
        · cases h1
    · split at h
      · rename_i h1; cases h; exact infsR_err _ _ _ h1
      · cases h
theorem ndR_err {pl : Int} {is : List (Int × Int)} {l : List Int} {a : Nat} {e : Fl} (h : ndR pl is l a = .error e) : e.1 ≠ 0 := by
  unfold ndR at h
  split at h
  · rename_i h1; cases h; exact octR_err h1
  · split at h
    · split at h
      · rename_i h1; cases h; exact octR_err h1
      · split at h
        · rename_i h1; cases h; exact listR_err (fun a e => numR_err) _ _ _ h1
        · cases h
    · split at h
      · split at h
        · rename_i h1; cases h; exact numR_err h1
        · cases h
      · split at h
        · split at h
          · rename_i h1; cases h; exact listR_err (fun a e => sgnR_err) _ _ _ h1
          · cases h
        · cases h; simp
theorem kidsT_err {w : Nat → Nat → Except Fl (List Nd × Nat)} (hw : ∀ m a e, w m a = .error e → e.1 ≠ 0) : ∀ (k m a : Nat) (e : Fl), kidsT w k m a = .error e → e.1 ≠ 0
  | 0, m, a, e, h => by cases h
  | k + 1, m, a, e, h => by
    simp only [kidsT] at h
    split at h
    · rename_i h1; cases h; exact hw _ _ _ h1
    · split at h
      · rename_i h1; cases h; exact kidsT_err hw _ _ _ _ h1
      · cases h
theorem treeR_err {pl : Int} {is : List (Int × Int)} {l : List Int} : ∀ (f dep m a : Nat) (e : Fl), treeR pl is l f dep m a = .error e → e.1 ≠ 0
  | 0, dep, m, a, e, h => by cases h; simp
  | f + 1, dep, m, a, e, h => by
    simp only [treeR] at h
    split at h
    · cases h; simp
    · split at h
      · rename_i h1; cases h; exact ndR_err h1
      · split at h
        · rename_i h1; cases h; exact kidsT_err (fun m a e => treeR_err f _ m a e) _ _ _ _ h1
        · cases h
theorem infsR_next {pl : Int} {l : List Int} : ∀ (n a : Nat) (is : List (Int × Int)) (a' : Nat), a ≤ l.length → infsR pl l n a = .ok (is, a') → a ≤ a' ∧ a' ≤ l.length ∧ is.length = n ∧ ∀ p ∈ is, 1 ≤ p.2 ∧ p.2 ≤ 10 ∧ 0 ≤ p.1 ∧ p.1 ≤ pl - 1
  | 0, a, is, a', ha, h => by simp only [infsR, Except.ok.injEq, Prod.mk.injEq] at h; obtain ⟨rfl, rfl⟩ := h; exact ⟨Nat.le_refl _, ha, rfl, fun p hp => by simp at hp⟩
  | n + 1, a, is, a', ha, h => by
    simp only [infsR] at h
    split at h
    · cases h
    · rename_i v a1 h1
      unfold infR at h1
      split at h1
      · cases h1
      · rename_i k a2 h2
        split at h1
        · cases h1
        · rename_i m a3 h3
          have g2 := octR_next h2
          have g3 := octR_next h3
          simp only [Except.ok.injEq, Prod.mk.injEq] at h1
          obtain ⟨rfl, rfl⟩ := h1
          split at h
          · cases h
          · rename_i vs a4 h4
            have g4 := infsR_next _ _ _ _ g3.2.1 h4
            simp only [Except.ok.injEq, Prod.mk.injEq] at h
            obtain ⟨rfl, rfl⟩ := h
            refine ⟨by omega, g4.2.1, by simp [g4.2.2.1], fun p hp => ?_⟩
            rcases List.mem_cons.1 hp with rfl | hp
            · exact ⟨by omega, by omega, by omega, by omega⟩
            · exact g4.2.2.2 p hp
end
end Go.Proofs.Ytoghpbjllompaaa.Rc

/- P30 -/
namespace Go.Proofs.Ytoghpbjllompaaa.Rc
open Go.Ab
section
variable {H : List AO}
theorem sI_tell (hcl : closed H) {l : List Int} {a : Nat} {pl : Int} {is : List (Int × Int)} {M : List AO} :
    Tell [] (sI H l a pl is M) [] (H ++ gO pl nl is :: flO (0, 0) :: rdO l a :: (AO.gv (H.length + 3) is.length (infs is) 1 (AO.dead ⟨infs is, 72, is.length, true⟩)) :: M.map (AO.gv (H.length + 3) is.length (infs is) 1)) := by
  have il := infs_len is
  have e1 : AO.gv (H.length + 3) is.length (infs is) 1 ⟨[i64 pl, nl, .own (H.length + 3) 0 is.length 2 is.length], 25, 0, true⟩ = gO pl nl is := by
    simp [AO.gv, gO, il, Nat.mul_comm]
    exact List.take_of_length_le (by omega)
  have e2 : AO.gv (H.length + 3) is.length (infs is) 1 (flO (0, 0)) = flO (0, 0) := by simp [AO.gv, flO]
  have e3 : AO.gv (H.length + 3) is.length (infs is) 1 (rdO l a) = rdO l a := by simp [AO.gv, rdO]
  have := Tell.give (env := []) (L := ⟨[i64 pl, nl, .own (H.length + 3) 0 is.length 2 is.length], 25, 0, true⟩ :: flO (0, 0) :: rdO l a :: ⟨infs is, 72, is.length, true⟩ :: M) hcl 3 1 (o := ⟨infs is, 72, is.length, true⟩) rfl rfl
  have h2 : Tell [] (sI H l a pl is M) [] (H ++ AO.gv (H.length + 3) is.length (infs is) 1 ⟨[i64 pl, nl, .own (H.length + 3) 0 is.length 2 is.length], 25, 0, true⟩ :: AO.gv (H.length + 3) is.length (infs is) 1 (flO (0, 0)) :: AO.gv (H.length + 3) is.length (infs is) 1 (rdO l a) :: (AO.gv (H.length + 3) is.length (infs is) 1 (AO.dead ⟨infs is, 72, is.length, true⟩)) :: M.map (AO.gv (H.length + 3) is.length (infs is) 1)) := this
  rw [e1, e2, e3] at h2
  exact h2
theorem fin24r {H1 : List AO} {env : Env} {g : Gm} (hcl : closed H) (hp : PanG H 25 3 H1) (hg : H1[H.length]? = some (gO g.pl (.slc (nds g.ns) g.ns.length) g.is)) (h2 : env.get 2 = rp H.length) (h3 : env.get 3 = rp (H.length + 1)) :
    FinD Try.prog H.length r24 (RgP H (.ok g)) 46 [rp (H.length + 1), rp H.length] .ret env H1 := by
  have hlen := hp.len
  refine ⟨_, okD46n (e0 := (0, 0)) hp.f (by omega), ?_⟩
  rintro H4 rfl
  obtain ⟨L, rfl⟩ := pre_split (H := H) (by omega) hp.at_
  have e1 : objCells (H ++ L) H.length 0 = g.cells := objCells_of (o := gO g.pl (.slc (nds g.ns) g.ns.length) g.is) hg rfl
  have e2 : objCells (H ++ L) (H.length + 1) 0 = [i64 0, i64 0] := objCells_of (o := flO (0, 0)) hp.f rfl
  refine ⟨?_, _, H, ⟨rfl, rfl⟩, ?_⟩
  · intro s hs
    simp only [r24, List.mem_cons, List.not_mem_nil, or_false] at hs
    rcases hs with rfl | rfl
    · simp [RS.side, h2, rp, e1, Gm.cells]
    · simp [RS.side, h3, rp, e2]
  · have hr : resV env (H ++ L) r24 = .tup [.agg g.cells, .agg [i64 0, i64 0]] := by
      simp [resV, r24, RS.ev, h2, h3, rp, e1, e2, Gm.cells]
    rw [hr]
    refine cv_drop rfl (Nat.le_refl _) hcl ?_
    simp [SV.under, SV.underL, Gm.cells, nds_under, infs_under]
theorem okP24 {b : List Int} (ho : Oct b) (hlb : b.length < 4611686018427387904) : OkP Try.prog 24 [.slc (byts b) b.length] H (RgP H (readG b)) := by
  refine okP_df hm Try.func24 c24 (by rfl) fun hcl => ?_
  have h48 := ok48 (H := H ++ [⟨[i64 0, nl, nl], 25, 0, true⟩, flO (0, 0)]) ho hlb 71
  have her := fun e => opnR_err (b := b) (c := 71) (e := e)
  have hok : ∀ l, opnR b 71 = .ok l → l.length ≤ 100000 ∧ 3 ≤ l.length ∧ Oct l := fun l h => by
    unfold opnR at h
    split at h
    · cases h
    · split at h
      · cases h
      · split at h
        · cases h
        · split at h
          · cases h
          · cases h
            exact ⟨by simp; omega, by simp; omega, fun x hx => ho x (List.mem_of_mem_take hx)⟩
  unfold readG
  generalize opnR b 71 = q at *
  simp -implicitDefEqProofs [i24a, i24s, i24f, i24]
  refine ⟨46, _, ⟨rfl, rfl⟩, call_go (ok37 71) ?_⟩
  simp only [flO] at h48
  simp -implicitDefEqProofs
  refine call_goP h48 ?_
  rintro o H' hp
  cases q with
  | error e =>
    obtain ⟨rfl, hk⟩ := hp
    simp -implicitDefEqProofs
    exact fin24e hcl (PanG.keep (c := [i64 0, nl, nl]) (L := []) hk (by simp) rfl) (her e rfl) (by simp [rp]) (by simp [rp])
  | ok l =>
    obtain ⟨rfl, rfl⟩ := hp
    have hl : l.length ≤ 100000 ∧ 3 ≤ l.length ∧ Oct l := hok l rfl
    have h49 := ok49 (H := H ++ [⟨[i64 0, nl, nl], 25, 0, true⟩, ⟨[i64 0, i64 0], 47, 0, true⟩, rdO l 3]) (j := H.length + 2) (l := l) (a := 3) (by simp) hl.2.2 hl.1 hl.2.1 1 4
    have hnx := fun v a' h => octR_next (l := l) (lo := 1) (hi := 4) (a := 3) (a' := a') (n := v) h
    have her := fun e => octR_err (l := l) (lo := 1) (hi := 4) (a := 3) (e := e)
    simp only []
    generalize octR l 1 4 3 = q at *
    simp only [rp] at h49
    simp -implicitDefEqProofs [rp]
    refine call_goP h49 ?_
    rintro o H' hp
    cases q with
    | error e =>
      obtain ⟨rfl, hk⟩ := hp
      simp -implicitDefEqProofs
      exact fin24e hcl (PanG.keep (c := [i64 0, nl, nl]) (L := [rdO l 3]) hk (by simp) rfl) (her e rfl) (by simp [rp]) (by simp [rp])
    | ok p =>
      obtain ⟨pl, a1⟩ := p
      obtain ⟨rfl, rfl⟩ := hp
      have hn := hnx pl a1 rfl
      have h50 := ok50 (H := H ++ [⟨[i64 pl, nl, nl], 25, 0, true⟩, ⟨[i64 0, i64 0], 47, 0, true⟩, rdO l a1]) (j := H.length + 2) (l := l) (a := a1) (by simp) hl.2.2 hl.1 hn.2.1 0 200
      have hnx := fun v a' h => numR_next (l := l) (lo := 0) (hi := 200) (a := a1) (a' := a') (n := v) h hn.2.1
      have hrg := fun v a' h => numR_rng (l := l) (lo := 0) (hi := 200) (a := a1) (a' := a') (n := v) h
      have her := fun e => numR_err (l := l) (lo := 0) (hi := 200) (a := a1) (e := e)
      simp only []
      generalize numR l 0 200 a1 = q at *
      simp only [rp] at h50
      simp -implicitDefEqProofs [rp]
      refine call_goP h50 ?_
      rintro o H' hp
      cases q with
      | error e =>
        obtain ⟨rfl, hk⟩ := hp
        simp -implicitDefEqProofs
        exact fin24e hcl (PanG.keep (c := [i64 pl, nl, nl]) (L := [rdO l a1]) hk (by simp) rfl) (her e rfl) (by simp [rp]) (by simp [rp])
      | ok p =>
        obtain ⟨n, a2⟩ := p
        obtain ⟨rfl, rfl⟩ := hp
        have hn2 := hnx n a2 rfl
        have hr2 := hrg n a2 rfl
        obtain ⟨n, rfl⟩ : ∃ k : Nat, n = k := ⟨n.toNat, by omega⟩
        simp only [Int.toNat_natCast]
        have her := fun e => infsR_err (pl := pl) (l := l) n a2 e
        have hnx := fun is a' => infsR_next (pl := pl) (l := l) n a2 is a' hn2.2
        obtain ⟨q, hq⟩ : ∃ q, infsR pl l n a2 = q := ⟨_, rfl⟩
        rw [hq] at her hnx ⊢
        simp -implicitDefEqProofs [rp]
        refine LI.tell (Tell.own0 (j := H.length) (p := 2) (o := ⟨[i64 pl, nl, nl], 25, 0, true⟩) (by simp) rfl rfl 72 2) (LI.cong (H' := sI H l a2 pl [] []) (by simp [sI, infs, flO, set_app0]) (loop24 hl.2.2 hl.1 (pl := pl) (by omega) (cnt := n) (by omega) (r := q) (fun e he env H' k2 k3 hp => ?_) (fun is a3 he env M k2 k3 k4 => ?_) n 0 a2 [] _ [] (by omega) hn2.2 rfl (by rw [preI_nil]; exact hq) ?_ ?_ ?_ ?_ ?_))
        · subst he
          simp -implicitDefEqProofs
          exact fin24e hcl hp (her e rfl) k2 k3
        · subst he
          have hi := hnx is a3 rfl
          simp -implicitDefEqProofs [k2, k3, k4]
          have h51 := ok51 (H := H ++ gO pl nl is :: flO (0, 0) :: rdO l a3 :: (AO.gv (H.length + 3) is.length (infs is) 1 (AO.dead ⟨infs is, 72, is.length, true⟩)) :: M.map (AO.gv (H.length + 3) is.length (infs is) 1)) (jr := H.length + 2) (jg := H.length) (a := a3) (pl := pl) (is := is)
            hl.2.2 hl.1 (by simp) (by simp) (by omega) hi.2.1 (by omega) (by omega) (by omega) (fun p hp => by have := hi.2.2.2 p hp; omega)
          have her := fun e => treeR_err (pl := pl) (is := is) (l := l) 42 0 0 a3 e
          obtain ⟨q, hq⟩ : ∃ q, treeR pl is l 42 0 0 a3 = q := ⟨_, rfl⟩
          simp only []
          rw [hq] at her h51 ⊢
          refine call_goP (OkP.tell (sI_tell hcl) (by simp [sI]) h51) ?_
          rintro o H' hp
          cases q with
          | error e =>
            obtain ⟨rfl, hk⟩ := hp
            simp -implicitDefEqProofs
            exact fin24e hcl (PanG.panT hk) (her e rfl) (by simp [k2]) (by simp [k3])
          | ok p =>
            obtain ⟨ns, a4⟩ := p
            obtain ⟨rfl, hs, hr, hg⟩ := hp
            simp -implicitDefEqProofs [k2, k3, k4]
            have hf : H'[H.length + 1]? = some (flO (0, 0)) := by rw [hs.at_ _ (by omega) (by omega)]; simp
            have hlen : H.length + 2 ≤ H'.length := by rw [hs.len]; simp
            have hpan : PanG H 25 3 H' := ⟨fun i hi => (hs.at_ i (by omega) (by omega)).trans (List.getElem?_append_left hi), hlen, ⟨_, hg, rfl⟩, hf⟩
            have ha4 : a4 ≤ l.length := (treeR_next (fun p hp => by have := hi.2.2.2 p hp; omega) 42 0 0 a3 ns a4 (by omega) hi.2.1 hq).2.2.1
            refine call_go (ok52 hr ha4) ?_
            by_cases h4 : a4 < l.length
            · rw [if_pos h4]
              simp -implicitDefEqProofs [h4]
              exact fin24e hcl hpan (by simp) (by simp [k2]) (by simp [k3])
            · rw [if_neg h4]
              have eg : objCells H' H.length 0 = [i64 pl, .slc (nds ns) ns.length, .slc (infs is) is.length] := objCells_of (o := gO pl (.slc (nds ns) ns.length) is) hg rfl
              have er : objCells H' (H.length + 2) 0 = [.slc (byts l) l.length, i64 a4] := objCells_of (o := rdO l a4) hr rfl
              simp -implicitDefEqProofs [k2, k3, k4, rp, eg]
              refine call_go (by simpa [Gm.cells] using ok36 (H := H') (g := ⟨pl, ns, is⟩)) ?_
              generalize hfe : Gm.formE ⟨pl, ns, is⟩ = fe at *
              by_cases h5 : fe = 0
              · subst h5
                simp -implicitDefEqProofs [k2, k3, k4, rp, eg]
                have e7 : Ab.setObj H' H.length (fun o => ⟨i64 pl :: SV.slc (nds ns) ns.length :: SV.slc (infs is) is.length :: List.drop 3 o.cells, o.ty, o.ver, o.live⟩) = H' := by
                  rw [setObj_some hg]; exact set_same hg
                have e8 : Ab.setObj H' (H.length + 1) (fun o => ⟨i64 0 :: i64 0 :: List.drop 2 o.cells, o.ty, o.ver, o.live⟩) = H' := by
                  rw [setObj_some hf]; exact set_same hf
                have e9 : objCells H' (H.length + 1) 0 = [i64 0, i64 0] := objCells_of (o := flO (0, 0)) hf rfl
                rw [e7, e8, e9, if_neg h4, if_pos hfe]
                refine ⟨by simp, fin24r (g := ⟨pl, ns, is⟩) hcl hpan hg (by simp [k2]) (by simp [k3])⟩
              · simp -implicitDefEqProofs [k2, k3, k4, rp, er, h5]
                refine call_go (ok53 fe l.length) ?_
                simp -implicitDefEqProofs
                rw [if_neg h4, if_neg (by rw [hfe]; exact h5), hfe]
                exact fin24e (e := (fe, l.length)) hcl hpan h5 (by simp [k2]) (by simp [k3])
        all_goals simp [rp]
end
end Go.Proofs.Ytoghpbjllompaaa.Rc

/- P31 -/
namespace Go.Proofs.Ytoghpbjllompaaa.Rc
open Go.Ab
/-- A row of shares. -/
def rowR (l : List Int) (a : Nat) : Except Fl (List Int × Nat) :=
  match octR l 1 10 a with
  | .error e => .error e
  | .ok (n, a1) => listR (numR l 0 4611686018427387903) n.toNat a1
def rowsR (l : List Int) : Nat → Nat → Except Fl (List (List Int) × Nat)
  | 0, a => .ok ([], a)
  | n + 1, a => match rowR l a with
    | .error e => .error e
    | .ok (v, a') => match rowsR l n a' with
      | .error e => .error e
      | .ok (vs, a'') => .ok (v :: vs, a'')
def preT (vs : List (List Int)) : Except Fl (List (List Int) × Nat) → Except Fl (List (List Int) × Nat)
  | .error e => .error e
  | .ok (ws, a) => .ok (vs ++ ws, a)
theorem preT_nil (r : Except Fl (List (List Int) × Nat)) : preT [] r = r := by cases r <;> rfl
theorem preT_step (l : List Int) (n a : Nat) (vs : List (List Int)) : preT vs (rowsR l (n + 1) a) = match rowR l a with
    | .error e => .error e
    | .ok (v, a') => preT (vs ++ [v]) (rowsR l n a') := by
  simp only [rowsR]
  cases rowR l a with
  | error e => rfl
  | ok p =>
    obtain ⟨v, a'⟩ := p
    simp only []
    cases rowsR l n a' with
    | error e => rfl
    | ok q => obtain ⟨ws, b⟩ := q; simp [preT]
def sR (H : List AO) (l : List Int) (a : Nat) (bb : Int) (rows : List (List Int)) (M : List AO) : List AO :=
  H ++ ⟨[i64 bb, .own (H.length + 3) 0 rows.length 1 rows.length], 28, 0, true⟩ :: flO (0, 0) :: rdO l a :: ⟨rowsV rows, 30, rows.length, true⟩ :: M
section
variable {H : List AO} {l : List Int}
theorem sR_r {a : Nat} {bb : Int} {rows : List (List Int)} {M : List AO} : (sR H l a bb rows M)[H.length + 2]? = some (rdO l a) := by simp [sR]
theorem sR_set {a a' : Nat} {bb : Int} {rows : List (List Int)} {M : List AO} : (sR H l a bb rows M).set (H.length + 2) (rdO l a') = sR H l a' bb rows M := by simp [sR]
theorem sR_pan {a : Nat} {bb : Int} {rows : List (List Int)} {M H' : List AO} (h : Keep (sR H l a bb rows M) [H.length + 2] H') : PanG H 28 2 H' := PanG.keep h (by simp) rfl
/-- A row that is being filled. -/
def fillO (vs : List Int) (n v : Nat) : AO := ⟨ints (vs ++ List.replicate n 0), 3, v, true⟩
theorem fill_set {vs : List Int} {n : Nat} {v : Int} {i : Nat} (hi : vs.length = i) : List.take i (ints (vs ++ List.replicate (n + 1) 0)) ++ i64 v :: List.drop (i + 1) (ints (vs ++ List.replicate (n + 1) 0)) = ints ((vs ++ [v]) ++ List.replicate n 0) := by
  subst hi
  have e : ints (vs ++ List.replicate (n + 1) 0) = ints vs ++ i64 0 :: ints (List.replicate n 0) := by simp [ints, List.replicate_succ]
  have e2 : ints vs ++ i64 0 :: ints (List.replicate n 0) = (ints vs ++ [i64 0]) ++ ints (List.replicate n 0) := by simp
  rw [e, List.take_left' (by simp [ints]), e2, List.drop_left' (by simp [ints])]
  simp [ints]
theorem sR_get {a : Nat} {bb : Int} {rows : List (List Int)} {M : List AO} {x : AO} : (sR H l a bb rows (M ++ [x]))[H.length + 4 + M.length]? = some x := by
  rw [show H.length + 4 + M.length = H.length + (M.length + 4) by omega]
  unfold sR
  rw [get_app]
  simp
theorem sR_put {a : Nat} {bb : Int} {rows : List (List Int)} {M : List AO} {x y : AO} : (sR H l a bb rows (M ++ [x])).set (H.length + 4 + M.length) y = sR H l a bb rows (M ++ [y]) := by
  rw [show H.length + 4 + M.length = H.length + (M.length + 4) by omega]
  unfold sR
  rw [set_app]
  simp
theorem loop32_1 (hoct : Oct l) (hl : l.length ≤ 100000) {bb : Int} {rows : List (List Int)} {M : List AO} {cnt ver : Nat} (hc : cnt ≤ 10) {r : Except Fl (List Int × Nat)} {e16 e17 : SV} {N : Nat} {K : XE → Env → List AO → Prop}
    (herr : ∀ e, r = .error e → ∀ env H', env.get 2 = rp H.length → env.get 3 = rp (H.length + 1) → PanG H 28 2 H' → K (.panic (fltV e)) env H')
    (hexit : ∀ vs a, r = .ok (vs, a) → ∀ env, env.get 2 = rp H.length → env.get 3 = rp (H.length + 1) → env.get 4 = rp (H.length + 2) → env.get 5 = .own (H.length + 4 + M.length) 0 cnt 1 ver → env.get 16 = e16 → env.get 17 = e17 → K (.exit 2) env (sR H l a bb rows (M ++ [fillO vs 0 ver]))) :
    ∀ (n i a : Nat) (vs : List Int) (env : Env), i + n = cnt → a ≤ l.length → vs.length = i → preR vs (listR (numR l 0 4611686018427387903) n a) = r → env.get 2 = rp H.length → env.get 3 = rp (H.length + 1) → env.get 4 = rp (H.length + 2) →
      env.get 5 = .own (H.length + 4 + M.length) 0 cnt 1 ver → env.get 16 = e16 → env.get 17 = e17 → env.get 23 = i64 cnt → env.get 24 = i64 i → LI Try.prog N drawB l32_1 env (sR H l a bb rows (M ++ [fillO vs n ver])) K := by
  intro n
  induction n with
  | zero =>
    intro i a vs env hi ha hvs hr h2 h3 h4 h5 h16 h17 h23 h24
    refine li_go hm l32_1.eq_1 ?_
    have e : i = cnt := by omega
    subst e
    have hr : r = .ok (vs, a) := by rw [← hr]; simp [listR, preR]
    simp -implicitDefEqProofs [h2, h3, h4, h5, h16, h17, h23, h24]
    exact hexit vs a hr _ (by simp [h2]) (by simp [h3]) (by simp [h4]) (by simp [h5]) (by simp [h16]) (by simp [h17])
  | succ n ih =>
    intro i a vs env hi ha hvs hr h2 h3 h4 h5 h16 h17 h23 h24
    refine li_go hm l32_1.eq_1 ?_
    have hlt : i < cnt := by omega
    have w1 : IntKind.i64.wrap ((i : Int) + 1) = ((i + 1 : Nat) : Int) := wrap_succ (by omega)
    rw [preR_step] at hr
    have h50 := ok50 (H := sR H l a bb rows (M ++ [fillO vs (n + 1) ver])) (j := H.length + 2) (l := l) (a := a) sR_r hoct hl ha 0 4611686018427387903
    have hnx := fun v a' h => numR_next (l := l) (lo := 0) (hi := 4611686018427387903) (a := a) (a' := a') (n := v) h ha
    generalize numR l 0 4611686018427387903 a = q at *
    simp only [rp] at h2 h3 h4 h50
    simp -implicitDefEqProofs [h2, h3, h4, h5, h16, h17, h23, h24, hlt]
    refine call_goP h50 ?_
    rintro o H' ho
    cases q with
    | error e =>
      obtain ⟨rfl, hk⟩ := ho
      simp -implicitDefEqProofs
      exact herr e hr.symm _ _ (by simp [h2, rp]) (by simp [h3, rp]) (sR_pan hk)
    | ok p =>
      obtain ⟨v, a'⟩ := p
      obtain ⟨rfl, rfl⟩ := ho
      have hn := hnx v a' rfl
      rw [sR_set]
      simp only [] at hr
      have eo : (sR H l a' bb rows (M ++ [fillO vs (n + 1) ver]))[H.length + 4 + M.length]? = some (fillO vs (n + 1) ver) := sR_get
      have ec : objCells (sR H l a' bb rows (M ++ [fillO vs (n + 1) ver])) (H.length + 4 + M.length) ver = ints (vs ++ List.replicate (n + 1) 0) := objCells_of eo rfl
      have es : ∀ f : AO → AO, Ab.setObj (sR H l a' bb rows (M ++ [fillO vs (n + 1) ver])) (H.length + 4 + M.length) f = sR H l a' bb rows (M ++ [f (fillO vs (n + 1) ver)]) := fun f => by rw [setObj_some eo, sR_put]
      simp -implicitDefEqProofs [h2, h3, h4, h5, h16, h17, h23, h24, ec, es, hlt, w1]
      refine ⟨by omega, LI.cong ?_ (ih (i + 1) a' (vs ++ [v]) _ (by omega) hn.2 (by simp; omega) hr ?_ ?_ ?_ ?_ ?_ ?_ ?_ ?_)⟩
      · simp only [fillO]
        rw [fill_set hvs]
      all_goals simp [rp, h2, h3, h4, h5, h16, h17, h23]
theorem loop32_0 (hoct : Oct l) (hl : l.length ≤ 100000) {bb : Int} {cnt : Nat} (hc : cnt ≤ 200) {r : Except Fl (List (List Int) × Nat)} {N : Nat} {K : XE → Env → List AO → Prop}
    (herr : ∀ e, r = .error e → ∀ env H', env.get 2 = rp H.length → env.get 3 = rp (H.length + 1) → PanG H 28 2 H' → K (.panic (fltV e)) env H')
    (hexit : ∀ rows a, r = .ok (rows, a) → ∀ env M, env.get 2 = rp H.length → env.get 3 = rp (H.length + 1) → env.get 4 = rp (H.length + 2) → K (.exit 0) env (sR H l a bb rows M)) (hcl : closed H) :
    ∀ (n i a : Nat) (rows : List (List Int)) (env : Env) (M : List AO), i + n = cnt → a ≤ l.length → rows.length = i → preT rows (rowsR l n a) = r → env.get 2 = rp H.length → env.get 3 = rp (H.length + 1) → env.get 4 = rp (H.length + 2) →
      env.get 16 = i64 cnt → env.get 17 = i64 i → LI Try.prog N drawB l32_0 env (sR H l a bb rows M) K := by
  intro n
  induction n with
  | zero =>
    intro i a rows env M hi ha his hr h2 h3 h4 h16 h17
    refine li_go hm l32_0.eq_1 ?_
    have e : i = cnt := by omega
    subst e
    have hr : r = .ok (rows, a) := by rw [← hr]; simp [rowsR, preT]
    simp -implicitDefEqProofs [h2, h3, h4, h16, h17]
    exact hexit rows a hr _ M (by simp [h2]) (by simp [h3]) (by simp [h4])
  | succ n ih =>
    intro i a rows env M hi ha his hr h2 h3 h4 h16 h17
    refine li_go hm l32_0.eq_1 ?_
    have hlt : i < cnt := by omega
    have w1 : IntKind.i64.wrap ((i : Int) + 1) = ((i + 1 : Nat) : Int) := wrap_succ (by omega)
    rw [preT_step] at hr
    unfold rowR at hr
    have h49 := ok49 (H := sR H l a bb rows M) (j := H.length + 2) (l := l) (a := a) sR_r hoct hl ha 1 10
    have hnx := fun v a' h => octR_next (l := l) (lo := 1) (hi := 10) (a := a) (a' := a') (n := v) h
    generalize octR l 1 10 a = q at *
    simp only [rp] at h2 h3 h4 h49
    simp -implicitDefEqProofs [h2, h3, h4, h16, h17, hlt]
    refine call_goP h49 ?_
    rintro o H' ho
    cases q with
    | error e =>
      obtain ⟨rfl, hk⟩ := ho
      simp -implicitDefEqProofs
      exact herr e hr.symm _ _ (by simp [h2, rp]) (by simp [h3, rp]) (sR_pan hk)
    | ok p =>
      obtain ⟨m, a1⟩ := p
      obtain ⟨rfl, rfl⟩ := ho
      have hn := hnx m a1 rfl
      rw [sR_set]
      obtain ⟨c, rfl⟩ : ∃ k : Nat, m = k := ⟨m.toNat, by omega⟩
      simp only [Int.toNat_natCast] at hr
      have hlr := fun vs a' h => listR_next (f := numR l 0 4611686018427387903) (b := l.length) (fun a v a' ha h => numR_next h ha) c a1 vs a' hn.2.1 h
      obtain ⟨lr, hlq⟩ : ∃ lr, listR (numR l 0 4611686018427387903) c a1 = lr := ⟨_, rfl⟩
      rw [hlq] at hr hlr
      simp -implicitDefEqProofs [h2, h3, h4, h16, h17]
      refine ⟨by omega, by omega, ?_⟩
      have hlen : (sR H l a1 bb rows M).length = H.length + 4 + M.length := by simp [sR]; omega
      rw [hlen]
      refine LI.cong (H' := sR H l a1 bb rows (M ++ [fillO [] c 0])) (by simp [sR, fillO, ints]) (loop32_1 hoct hl (cnt := c) (ver := 0) (by omega) (r := lr) (e16 := i64 cnt) (e17 := i64 i) (fun e he env H' k2 k3 hp => ?_) (fun vs a2 he env k2 k3 k4 k5 k16 k17 => ?_) c 0 a1 [] _ (by omega) hn.2.1 rfl (by rw [preR_nil]; exact hlq) ?_ ?_ ?_ ?_ ?_ ?_ ?_ ?_)
      · subst he
        simp -implicitDefEqProofs
        exact herr e hr.symm _ _ k2 k3 hp
      · subst he
        have hv := hlr vs a2 rfl
        simp only [] at hr
        simp only [rp] at k2 k3 k4
        have eg : objCells (sR H l a2 bb rows (M ++ [fillO vs 0 0])) H.length 0 = [i64 bb, .own (H.length + 3) 0 rows.length 1 rows.length] := by simp [sR]
        have rl : (rowsV rows).length = rows.length := by simp [rowsV]
        unfold sR at eg ⊢
        simp -implicitDefEqProofs [k2, k3, k4, k5, k16, k17, w1, rl]
        refine ⟨by omega, by omega, ?_⟩
        have hkk : H.length + 4 + M.length = H.length + (M.length + 4) := by omega
        have il : (ints vs).length = vs.length := by simp [ints]
        have hso : (fillO vs 0 0).cells = ints vs := by simp [fillO]
        refine LI.tell (Tell.give hcl (M.length + 4) 1 (o := fillO vs 0 0) (by simp) rfl) ?_
        have g1 : AO.gv (H.length + (M.length + 4)) 0 (ints vs) 1 ⟨[i64 bb, .own (H.length + 3) 0 (rows.length + 1) 1 (rows.length + 1)], 28, 0, true⟩ = ⟨[i64 bb, .own (H.length + 3) 0 (rows.length + 1) 1 (rows.length + 1)], 28, 0, true⟩ := by
          simp [AO.gv]
        have g2 : AO.gv (H.length + (M.length + 4)) 0 (ints vs) 1 (flO (0, 0)) = flO (0, 0) := by simp [AO.gv, flO]
        have g3 : AO.gv (H.length + (M.length + 4)) 0 (ints vs) 1 (rdO l a2) = rdO l a2 := by simp [AO.gv, rdO]
        have g4 : AO.gv (H.length + (M.length + 4)) 0 (ints vs) 1 ⟨rowsV rows ++ [.own (H.length + 4 + M.length) 0 c 1 0], 30, rows.length + 1, true⟩ = ⟨rowsV (rows ++ [vs]), 30, (rows ++ [vs]).length, true⟩ := by
          simp [AO.gv, rowsV, sl, hkk, il, hv.2.2, Function.comp_def]
        refine LI.cong (H' := sR H l a2 bb (rows ++ [vs]) ((M ++ [AO.dead (fillO vs 0 0), ⟨[.own (H.length + 4 + M.length) 0 c 1 0], 30, 0, true⟩]).map (AO.gv (H.length + (M.length + 4)) 0 (ints vs) 1))) ?_ (ih (i + 1) a2 (rows ++ [vs]) _ _ (by omega) hv.2.1 (by simp; omega) hr ?_ ?_ ?_ ?_ ?_)
        · simp [sR, fillO, g1, g2, g3, g4]
          exact ⟨g2.symm, g3.symm, by have := congrArg AO.cells g4; simpa [AO.gv] using this.symm⟩
        all_goals rw [get_map _ (SV.gv _ _ _ _) (gv_any _ _ _ _)]; simp [rp, k2, k3, k4, k16, k17]
      all_goals simp [rp, h2, h3, h4]
end
end Go.Proofs.Ytoghpbjllompaaa.Rc

/- P32 -/
namespace Go.Proofs.Ytoghpbjllompaaa.Rc
open Go.Ab
def readT (b : List Int) : Except Fl Tb :=
  match opnR b 84 with
  | .error e => .error e
  | .ok l => match octR l 0 255 3 with
    | .error e => .error e
    | .ok (bb, a1) => match numR l 0 200 a1 with
      | .error e => .error e
      | .ok (n, a2) => match rowsR l n.toNat a2 with
        | .error e => .error e
        | .ok (rows, a3) => if a3 < l.length then .error (4, a3) else if Tb.err ⟨bb, rows⟩ ≠ 0 then .error (Tb.err ⟨bb, rows⟩, l.length) else .ok ⟨bb, rows⟩
def tOf : Except Fl Tb → Tb
  | .ok t => t
  | .error _ => ⟨0, []⟩
def RtP (H : List AO) (r : Except Fl Tb) (o : Out) (H' : List AO) : Prop := o = .ret (.tup [.agg (tOf r).cells, .agg [i64 (fOf r).1, i64 (fOf r).2]]) ∧ H' = H
def tO (t : Tb) : AO := ⟨t.cells, 28, 0, true⟩
section
variable {H : List AO}
theorem fin32e {H1 : List AO} {env : Env} {e : Fl} (hcl : closed H) (hp : PanG H 28 2 H1) (he : e.1 ≠ 0) (h2 : env.get 2 = rp H.length) (h3 : env.get 3 = rp (H.length + 1)) :
    FinD Try.prog H.length r32 (RtP H (.error e)) 62 [rp (H.length + 1), rp H.length] (.panic (fltV e)) env H1 := by
  obtain ⟨c, hg, hc⟩ := hp.g
  have hlen := hp.len
  refine ⟨_, okD62e hp.f hg hc (by omega) he, ?_⟩
  rintro H4 rfl
  obtain ⟨L, hL⟩ := pre_split (H := H) (H' := (H1.set (H.length + 1) (flO e)).set H.length ⟨[i64 0, nl], 28, 0, true⟩) (by simp; omega) (fun i hi => by
    rw [List.getElem?_set_ne (by omega), List.getElem?_set_ne (by omega)]; exact hp.at_ i hi)
  have e1 : objCells ((H1.set (H.length + 1) (flO e)).set H.length ⟨[i64 0, nl], 28, 0, true⟩) H.length 0 = [i64 0, nl] := objCells_of (o := ⟨[i64 0, nl], 28, 0, true⟩) (by rw [List.getElem?_set_self (by simp; omega)]) rfl
  have e2 : objCells ((H1.set (H.length + 1) (flO e)).set H.length ⟨[i64 0, nl], 28, 0, true⟩) (H.length + 1) 0 = [i64 e.1, i64 e.2] := objCells_of (o := flO e) (by rw [List.getElem?_set_ne (by omega), List.getElem?_set_self (by omega)]) rfl
  refine ⟨?_, _, H, ⟨rfl, rfl⟩, ?_⟩
  · intro s hs
    simp only [r32, List.mem_cons, List.not_mem_nil, or_false] at hs
    rcases hs with rfl | rfl
    · simp [RS.side, h2, rp, e1]
    · simp [RS.side, h3, rp, e2]
  · have hr : resV env ((H1.set (H.length + 1) (flO e)).set H.length ⟨[i64 0, nl], 28, 0, true⟩) r32 = .tup [.agg [i64 0, nl], .agg [i64 e.1, i64 e.2]] := by
      simp [resV, r32, RS.ev, h2, h3, rp, e1, e2]
    rw [hr, hL]
    refine Cv.le (cv_drop rfl (Nat.le_refl _) hcl rfl) (le_tup (leL.cons (le_agg ?_) (leL.cons (SV.le.refl _) leL.nil)))
    exact leL.cons (SV.le.refl _) (leL.cons le_nil leL.nil)
theorem fin32r {H1 : List AO} {env : Env} {g : Tb} (hcl : closed H) (hp : PanG H 28 2 H1) (hg : H1[H.length]? = some (tO g)) (h2 : env.get 2 = rp H.length) (h3 : env.get 3 = rp (H.length + 1)) :
    FinD Try.prog H.length r32 (RtP H (.ok g)) 62 [rp (H.length + 1), rp H.length] .ret env H1 := by
  have hlen := hp.len
  refine ⟨_, okD62n (e0 := (0, 0)) hp.f (by omega), ?_⟩
  rintro H4 rfl
  obtain ⟨L, rfl⟩ := pre_split (H := H) (by omega) hp.at_
  have e1 : objCells (H ++ L) H.length 0 = g.cells := objCells_of (o := tO g) hg rfl
  have e2 : objCells (H ++ L) (H.length + 1) 0 = [i64 0, i64 0] := objCells_of (o := flO (0, 0)) hp.f rfl
  refine ⟨?_, _, H, ⟨rfl, rfl⟩, ?_⟩
  · intro s hs
    simp only [r32, List.mem_cons, List.not_mem_nil, or_false] at hs
    rcases hs with rfl | rfl
    · simp [RS.side, h2, rp, e1, Tb.cells]
    · simp [RS.side, h3, rp, e2]
  · have hr : resV env (H ++ L) r32 = .tup [.agg g.cells, .agg [i64 0, i64 0]] := by
      simp [resV, r32, RS.ev, h2, h3, rp, e1, e2, Tb.cells]
    rw [hr]
    refine cv_drop rfl (Nat.le_refl _) hcl ?_
    simp [SV.under, SV.underL, Tb.cells, rowsV_under]
theorem rowR_err {l : List Int} {a : Nat} {e : Fl} (h : rowR l a = .error e) : e.1 ≠ 0 := by
  unfold rowR at h
  split at h
  · rename_i h1; cases h; exact octR_err h1
  · exact listR_err (fun a e => numR_err) _ _ _ h
theorem rowsR_err {l : List Int} : ∀ (n a : Nat) (e : Fl), rowsR l n a = .error e → e.1 ≠ 0
  | 0, a, e, h => by cases h
  | n + 1, a, e, h => by
    simp only [rowsR] at h
    split at h
    · rename_i h1; cases h; exact rowR_err h1
    · split at h
      · rename_i h1; cases h; exact rowsR_err _ _ _ h1
      · cases h
theorem rowR_next {l : List Int} {a a' : Nat} {row : List Int} (ha : a ≤ l.length) (h : rowR l a = .ok (row, a')) : a ≤ a' ∧ a' ≤ l.length ∧ 1 ≤ row.length ∧ row.length ≤ 10 := by
  unfold rowR at h
  split at h
  · cases h
  · rename_i m a1 h1
    have g1 := octR_next h1
    have g2 := listR_next (f := numR l 0 4611686018427387903) (b := l.length) (fun a v a' ha h => numR_next h ha) _ _ _ _ g1.2.1 h
    omega
theorem rowsR_next {l : List Int} : ∀ (n a : Nat) (rows : List (List Int)) (a' : Nat), a ≤ l.length → rowsR l n a = .ok (rows, a') → a ≤ a' ∧ a' ≤ l.length ∧ rows.length = n ∧ ∀ r ∈ rows, 1 ≤ r.length ∧ r.length ≤ 10
  | 0, a, rows, a', ha, h => by simp only [rowsR, Except.ok.injEq, Prod.mk.injEq] at h; obtain ⟨rfl, rfl⟩ := h; exact ⟨Nat.le_refl _, ha, rfl, fun p hp => by simp at hp⟩
  | n + 1, a, rows, a', ha, h => by
    simp only [rowsR] at h
    split at h
    · cases h
    · rename_i v a1 h1
      have g1 := rowR_next ha h1
      split at h
      · cases h
      · rename_i vs a4 h4
        have g4 := rowsR_next _ _ _ _ g1.2.1 h4
        simp only [Except.ok.injEq, Prod.mk.injEq] at h
        obtain ⟨rfl, rfl⟩ := h
        refine ⟨by omega, g4.2.1, by simp [g4.2.2.1], fun p hp => ?_⟩
        rcases List.mem_cons.1 hp with rfl | hp
        · exact ⟨by omega, by omega⟩
        · exact g4.2.2.2 p hp
theorem sR_tell (hcl : closed H) {l : List Int} {a : Nat} {bb : Int} {rows : List (List Int)} {M : List AO} :
    Tell [] (sR H l a bb rows M) [] (H ++ tO ⟨bb, rows⟩ :: flO (0, 0) :: rdO l a :: (AO.gv (H.length + 3) rows.length (rowsV rows) 1 (AO.dead ⟨rowsV rows, 30, rows.length, true⟩)) :: M.map (AO.gv (H.length + 3) rows.length (rowsV rows) 1)) := by
  have il : (rowsV rows).length = rows.length := by simp [rowsV]
  have e1 : AO.gv (H.length + 3) rows.length (rowsV rows) 1 ⟨[i64 bb, .own (H.length + 3) 0 rows.length 1 rows.length], 28, 0, true⟩ = tO ⟨bb, rows⟩ := by
    simp [AO.gv, tO, Tb.cells, il]
    exact List.take_of_length_le (by omega)
  have e2 : AO.gv (H.length + 3) rows.length (rowsV rows) 1 (flO (0, 0)) = flO (0, 0) := by simp [AO.gv, flO]
  have e3 : AO.gv (H.length + 3) rows.length (rowsV rows) 1 (rdO l a) = rdO l a := by simp [AO.gv, rdO]
  have := Tell.give (env := []) (L := ⟨[i64 bb, .own (H.length + 3) 0 rows.length 1 rows.length], 28, 0, true⟩ :: flO (0, 0) :: rdO l a :: ⟨rowsV rows, 30, rows.length, true⟩ :: M) hcl 3 1 (o := ⟨rowsV rows, 30, rows.length, true⟩) rfl rfl
  have h2 : Tell [] (sR H l a bb rows M) [] (H ++ AO.gv (H.length + 3) rows.length (rowsV rows) 1 ⟨[i64 bb, .own (H.length + 3) 0 rows.length 1 rows.length], 28, 0, true⟩ :: AO.gv (H.length + 3) rows.length (rowsV rows) 1 (flO (0, 0)) :: AO.gv (H.length + 3) rows.length (rowsV rows) 1 (rdO l a) :: (AO.gv (H.length + 3) rows.length (rowsV rows) 1 (AO.dead ⟨rowsV rows, 30, rows.length, true⟩)) :: M.map (AO.gv (H.length + 3) rows.length (rowsV rows) 1)) := this
  rw [e1, e2, e3] at h2
  exact h2
theorem okP32 {b : List Int} (ho : Oct b) (hlb : b.length < 4611686018427387904) : OkP Try.prog 32 [.slc (byts b) b.length] H (RtP H (readT b)) := by
  refine okP_df hm Try.func32 c32 (by rfl) fun hcl => ?_
  have h48 := ok48 (H := H ++ [⟨[i64 0, nl], 28, 0, true⟩, flO (0, 0)]) ho hlb 84
  have her := fun e => opnR_err (b := b) (c := 84) (e := e)
  have hok : ∀ l, opnR b 84 = .ok l → l.length ≤ 100000 ∧ 3 ≤ l.length ∧ Oct l := fun l h => by
    unfold opnR at h
    split at h
    · cases h
    · split at h
      · cases h
      · split at h
        · cases h
        · split at h
          · cases h
          · cases h
            exact ⟨by simp; omega, by simp; omega, fun x hx => ho x (List.mem_of_mem_take hx)⟩
  unfold readT
  generalize opnR b 84 = q at *
  simp -implicitDefEqProofs [i32a, i32s, i32f, i32]
  refine ⟨62, _, ⟨rfl, rfl⟩, call_go (ok37 84) ?_⟩
  simp only [flO] at h48
  simp -implicitDefEqProofs
  refine call_goP h48 ?_
  rintro o H' hp
  cases q with
  | error e =>
    obtain ⟨rfl, hk⟩ := hp
    simp -implicitDefEqProofs
    exact fin32e hcl (PanG.keep (c := [i64 0, nl]) (L := []) hk (by simp) rfl) (her e rfl) (by simp [rp]) (by simp [rp])
  | ok l =>
    obtain ⟨rfl, rfl⟩ := hp
    have hl : l.length ≤ 100000 ∧ 3 ≤ l.length ∧ Oct l := hok l rfl
    have h49 := ok49 (H := H ++ [⟨[i64 0, nl], 28, 0, true⟩, ⟨[i64 0, i64 0], 47, 0, true⟩, rdO l 3]) (j := H.length + 2) (l := l) (a := 3) (by simp) hl.2.2 hl.1 hl.2.1 0 255
    have hnx := fun v a' h => octR_next (l := l) (lo := 0) (hi := 255) (a := 3) (a' := a') (n := v) h
    have her := fun e => octR_err (l := l) (lo := 0) (hi := 255) (a := 3) (e := e)
    simp only []
    generalize octR l 0 255 3 = q at *
    simp only [rp] at h49
    simp -implicitDefEqProofs [rp]
    refine call_goP h49 ?_
    rintro o H' hp
    cases q with
    | error e =>
      obtain ⟨rfl, hk⟩ := hp
      simp -implicitDefEqProofs
      exact fin32e hcl (PanG.keep (c := [i64 0, nl]) (L := [rdO l 3]) hk (by simp) rfl) (her e rfl) (by simp [rp]) (by simp [rp])
    | ok p =>
      obtain ⟨bb, a1⟩ := p
      obtain ⟨rfl, rfl⟩ := hp
      have hn := hnx bb a1 rfl
      have h50 := ok50 (H := H ++ [⟨[i64 bb, nl], 28, 0, true⟩, ⟨[i64 0, i64 0], 47, 0, true⟩, rdO l a1]) (j := H.length + 2) (l := l) (a := a1) (by simp) hl.2.2 hl.1 hn.2.1 0 200
      have hnx := fun v a' h => numR_next (l := l) (lo := 0) (hi := 200) (a := a1) (a' := a') (n := v) h hn.2.1
      have hrg := fun v a' h => numR_rng (l := l) (lo := 0) (hi := 200) (a := a1) (a' := a') (n := v) h
      have her := fun e => numR_err (l := l) (lo := 0) (hi := 200) (a := a1) (e := e)
      simp only []
      generalize numR l 0 200 a1 = q at *
      simp only [rp] at h50
      simp -implicitDefEqProofs [rp]
      refine call_goP h50 ?_
      rintro o H' hp
      cases q with
      | error e =>
        obtain ⟨rfl, hk⟩ := hp
        simp -implicitDefEqProofs
        exact fin32e hcl (PanG.keep (c := [i64 bb, nl]) (L := [rdO l a1]) hk (by simp) rfl) (her e rfl) (by simp [rp]) (by simp [rp])
      | ok p =>
        obtain ⟨n, a2⟩ := p
        obtain ⟨rfl, rfl⟩ := hp
        have hn2 := hnx n a2 rfl
        have hr2 := hrg n a2 rfl
        obtain ⟨n, rfl⟩ : ∃ k : Nat, n = k := ⟨n.toNat, by omega⟩
        simp only [Int.toNat_natCast]
        have her := fun e => rowsR_err (l := l) n a2 e
        have hnx := fun rows a' => rowsR_next (l := l) n a2 rows a' hn2.2
        obtain ⟨q, hq⟩ : ∃ q, rowsR l n a2 = q := ⟨_, rfl⟩
        rw [hq] at her hnx ⊢
        simp -implicitDefEqProofs [rp]
        refine LI.tell (Tell.own0 (j := H.length) (p := 1) (o := ⟨[i64 bb, nl], 28, 0, true⟩) (by simp) rfl rfl 30 1) (LI.cong (H' := sR H l a2 bb [] []) (by simp [sR, rowsV, flO, set_app0]) (loop32_0 hl.2.2 hl.1 (bb := bb) (cnt := n) (by omega) (r := q) (fun e he env H' k2 k3 hp => ?_) (fun rows a3 he env M k2 k3 k4 => ?_) hcl n 0 a2 [] _ [] (by omega) hn2.2 rfl (by rw [preT_nil]; exact hq) ?_ ?_ ?_ ?_ ?_))
        · subst he
          simp -implicitDefEqProofs
          exact fin32e hcl hp (her e rfl) k2 k3
        · subst he
          have hi := hnx rows a3 rfl
          simp -implicitDefEqProofs [k2, k3, k4]
          refine call_goP (OkP.tell (sR_tell hcl) (by simp [sR]) (ok52 (l := l) (a := a3) (by simp) hi.2.1).toP) ?_
          rintro o H' ⟨rfl, rfl⟩
          generalize hH2 : H ++ tO ⟨bb, rows⟩ :: flO (0, 0) :: rdO l a3 :: (AO.gv (H.length + 3) rows.length (rowsV rows) 1 (AO.dead ⟨rowsV rows, 30, rows.length, true⟩)) :: M.map (AO.gv (H.length + 3) rows.length (rowsV rows) 1) = H'
          have hg : H'[H.length]? = some (tO ⟨bb, rows⟩) := by subst hH2; simp
          have hf : H'[H.length + 1]? = some (flO (0, 0)) := by subst hH2; simp
          have hr : H'[H.length + 2]? = some (rdO l a3) := by subst hH2; simp
          have hpan : PanG H 28 2 H' := ⟨fun i hi => by subst hH2; exact List.getElem?_append_left hi, by subst hH2; simp, ⟨_, hg, rfl⟩, hf⟩
          by_cases h4 : a3 < l.length
          · rw [if_pos h4]
            simp -implicitDefEqProofs [h4]
            exact fin32e hcl hpan (by simp) (by simp [k2]) (by simp [k3])
          · rw [if_neg h4]
            have eg : objCells H' H.length 0 = [i64 bb, .slc (rowsV rows) rows.length] := objCells_of (o := tO ⟨bb, rows⟩) hg rfl
            have er : objCells H' (H.length + 2) 0 = [.slc (byts l) l.length, i64 a3] := objCells_of (o := rdO l a3) hr rfl
            simp -implicitDefEqProofs [k2, k3, k4, rp, eg]
            refine call_go (by simpa [Tb.cells] using ok44 (H := H') (t := ⟨bb, rows⟩) (fun i h => by have := hi.2.2.2 _ (List.getElem_mem h); omega)) ?_
            generalize hfe : Tb.err ⟨bb, rows⟩ = fe at *
            by_cases h5 : fe = 0
            · subst h5
              simp -implicitDefEqProofs [k2, k3, k4, rp, eg]
              have e7 : Ab.setObj H' H.length (fun o => ⟨i64 bb :: SV.slc (rowsV rows) rows.length :: List.drop 2 o.cells, o.ty, o.ver, o.live⟩) = H' := by
                rw [setObj_some hg]; exact set_same hg
              have e8 : Ab.setObj H' (H.length + 1) (fun o => ⟨i64 0 :: i64 0 :: List.drop 2 o.cells, o.ty, o.ver, o.live⟩) = H' := by
                rw [setObj_some hf]; exact set_same hf
              have e9 : objCells H' (H.length + 1) 0 = [i64 0, i64 0] := objCells_of (o := flO (0, 0)) hf rfl
              rw [e7, e8, e9, if_neg h4, if_pos hfe]
              exact ⟨by simp, fin32r (g := ⟨bb, rows⟩) hcl hpan hg (by simp [k2]) (by simp [k3])⟩
            · simp -implicitDefEqProofs [k2, k3, k4, rp, er, h5]
              refine call_go (ok53 fe l.length) ?_
              simp -implicitDefEqProofs
              rw [if_neg h4, if_neg (by rw [hfe]; exact h5), hfe]
              exact fin32e (e := (fe, l.length)) hcl hpan h5 (by simp [k2]) (by simp [k3])
        all_goals simp [rp]
end
end Go.Proofs.Ytoghpbjllompaaa.Rc

/- R1 -/
namespace Go.Proofs.Ytoghpbjllompaaa.Rc
open Go.Ab
/-- A reader of the reference. -/
def rfO (l : List Int) (a : Nat) (e : Fl) : AO := ⟨[.slc (byts l) l.length, i64 a, i64 e.1, i64 e.2], 100, 0, true⟩
/-- What a call of the reference's reader comes to, as long as nothing has been found. -/
def RfP {α : Type} (H : List AO) (l : List Int) (j a : Nat) (f : α → SV) (z : SV) (r : Except Fl (α × Nat)) (o : Out) (H' : List AO) : Prop :=
  match r with
  | .ok (v, a') => o = .ret (f v) ∧ H' = H.set j (rfO l a' (0, 0))
  | .error e => o = .ret z ∧ H' = H.set j (rfO l a e)
section
variable {H : List AO} {l : List Int} {j a : Nat} {e : Fl}
theorem ok61n (ho : H[j]? = some (rfO l a e)) (he : e.1 ≠ 0) (c p : Int) : Ok Try.prog 61 [rp j, i64 c, i64 p] H (.ret (.tup [])) H := by
  have hj := getElem?_lt ho
  have e1 : objCells H j 0 = (rfO l a e).cells := objCells_of (o := rfO l a e) ho rfl
  refine ok_fn hm Try.func61 c61 (by simp [rp, SV.under, hj]) fun hcl => ?_
  simp -implicitDefEqProofs [i61, r61, rp, e1, rfO, he]
  exact cv_id
theorem ok61 (ho : H[j]? = some (rfO l a (0, 0))) (e : Fl) : Ok Try.prog 61 [rp j, i64 e.1, i64 e.2] H (.ret (.tup [])) (H.set j (rfO l a e)) := by
  have hj := getElem?_lt ho
  have e1 : objCells H j 0 = (rfO l a (0, 0)).cells := objCells_of (o := rfO l a (0, 0)) ho rfl
  have e2 : ∀ f : AO → AO, Ab.setObj H j f = H.set j (f (rfO l a (0, 0))) := fun f => setObj_some ho f
  refine ok_fn hm Try.func61 c61 (by simp [rp, SV.under, hj]) fun hcl => ?_
  simp -implicitDefEqProofs [i61, r61, rp, e1, e2, rfO]
  exact cv_id
theorem ok58n (ho : H[j]? = some (rfO l a e)) (he : e.1 ≠ 0) (lo hi : Int) : Ok Try.prog 58 [rp j, i64 lo, i64 hi] H (.ret (i64 lo)) H := by
  have hj := getElem?_lt ho
  have e1 : objCells H j 0 = (rfO l a e).cells := objCells_of (o := rfO l a e) ho rfl
  refine ok_fn hm Try.func58 c58 (by simp [rp, SV.under, hj]) fun hcl => ?_
  simp -implicitDefEqProofs [i58, r58, rp, e1, rfO, he]
  exact cv_id
theorem ok59n (ho : H[j]? = some (rfO l a e)) (he : e.1 ≠ 0) (lo hi : Int) : Ok Try.prog 59 [rp j, i64 lo, i64 hi] H (.ret (i64 lo)) H := by
  have hj := getElem?_lt ho
  have e1 : objCells H j 0 = (rfO l a e).cells := objCells_of (o := rfO l a e) ho rfl
  refine ok_fn hm Try.func59 c59 (by simp [rp, SV.under, hj]) fun hcl => ?_
  simp -implicitDefEqProofs [i59, r59, rp, e1, rfO, he]
  exact cv_id
theorem ok58 (ho : H[j]? = some (rfO l a (0, 0))) (hoct : Oct l) (hl : l.length ≤ 100000) (ha : a ≤ l.length) (lo hi : Int) :
    OkP Try.prog 58 [rp j, i64 lo, i64 hi] H (RfP H l j a i64 (i64 lo) (octR l lo hi a)) := by
  have hj := getElem?_lt ho
  have e1 : objCells H j 0 = (rfO l a (0, 0)).cells := objCells_of (o := rfO l a (0, 0)) ho rfl
  have e2 : ∀ f : AO → AO, Ab.setObj H j f = H.set j (f (rfO l a (0, 0))) := fun f => setObj_some ho f
  refine okP_fn hm Try.func58 c58 (by simp [rp, SV.under, hj]) fun hcl => ?_
  unfold octR
  by_cases h1 : l.length ≤ a
  · have h1' : (l.length : Int) ≤ a := by omega
    rw [if_pos h1]
    simp -implicitDefEqProofs [i58, r58, rp, e1, rfO, h1, h1']
    refine call_go (by simpa [rp] using ok61 ho (16, a)) ?_
    simp -implicitDefEqProofs
    exact ⟨_, _, ⟨rfl, rfl⟩, cv_idq (by simp [rfO])⟩
  · rw [if_neg h1]
    have hlt : a < l.length := by omega
    have h1' : ¬ (l.length : Int) ≤ a := by omega
    have hb := hoct _ (List.getElem_mem hlt)
    have w1 : IntKind.i64.wrap ((a : Int) + 1) = ((a + 1 : Nat) : Int) := wrap_succ (by omega)
    have w3 : IntKind.i64.wrap l[a] = l[a] := wrap_id (by omega) (by omega)
    have hg : l.getD a 0 = l[a] := by simp [hlt]
    have hba := byts_at hlt
    rw [hg]
    obtain ⟨z, hz⟩ : ∃ z, l[a] = z := ⟨_, rfl⟩
    rw [hz] at hb w3 hba ⊢
    by_cases hr : z < lo ∨ hi < z
    · rw [if_pos hr]
      have h61 := ok61 ho (2, a)
      by_cases hlo : z < lo
      · simp -implicitDefEqProofs [i58, r58, rp, e1, rfO, h1, h1', hlt, hba, hz, w3, hlo]
        refine And.intro (by omega) (call_go (by simpa [rp] using h61) ?_)
        simp -implicitDefEqProofs
        exact ⟨_, _, ⟨rfl, rfl⟩, cv_idq (by simp [rfO])⟩
      · have hhi : hi < z := by omega
        simp -implicitDefEqProofs [i58, r58, rp, e1, rfO, h1, h1', hlt, hba, hz, w3, hlo, hhi]
        refine And.intro (by omega) (call_go (by simpa [rp] using h61) ?_)
        simp -implicitDefEqProofs
        exact ⟨_, _, ⟨rfl, rfl⟩, cv_idq (by simp [rfO])⟩
    · rw [if_neg hr]
      have hlo : ¬ z < lo := by omega
      have hhi : ¬ hi < z := by omega
      simp -implicitDefEqProofs [i58, r58, rp, e1, e2, rfO, h1, h1', hlt, hba, hz, w1, w3, hlo, hhi]
      refine And.intro (by omega) ?_
      exact ⟨_, _, ⟨rfl, rfl⟩, cv_idq (by simp [rfO])⟩
theorem ok59 (ho : H[j]? = some (rfO l a (0, 0))) (hoct : Oct l) (hl : l.length ≤ 100000) (ha : a ≤ l.length) (lo hi : Int) :
    OkP Try.prog 59 [rp j, i64 lo, i64 hi] H (RfP H l j a i64 (i64 lo) (numR l lo hi a)) := by
  have hj := getElem?_lt ho
  have e1 : objCells H j 0 = (rfO l a (0, 0)).cells := objCells_of (o := rfO l a (0, 0)) ho rfl
  have e2 : ∀ f : AO → AO, Ab.setObj H j f = H.set j (f (rfO l a (0, 0))) := fun f => setObj_some ho f
  refine okP_fn hm Try.func59 c59 (by simp [rp, SV.under, hj]) fun hcl => ?_
  have h61 := fun c => ok61 ho (c, a)
  have h19 := ok19 (IsB.slc H l) hoct (by omega) a
  have hnx := fun h => getV_next (l := l) (a := a) h ha
  unfold numR
  generalize getV l a = g at *
  obtain ⟨v, nx, c⟩ := g
  simp only [tup3] at *
  simp -implicitDefEqProofs [i59, r59, rp, e1, rfO]
  refine callq_go (fun _ => h19) ?_
  simp -implicitDefEqProofs
  by_cases hc : c = 0
  · subst hc
    have hnx := hnx rfl
    have hto : ((nx.toNat : Nat) : Int) = nx := by omega
    by_cases hlo : v < lo
    · simp -implicitDefEqProofs [hlo, e1, rfO]
      refine call_go (by simpa [rp] using h61 2) ?_
      simp -implicitDefEqProofs [hlo]
      exact ⟨_, _, ⟨rfl, rfl⟩, cv_idq (by simp [rfO])⟩
    · by_cases hhi : hi < v
      · simp -implicitDefEqProofs [hlo, hhi, e1, rfO]
        refine call_go (by simpa [rp] using h61 2) ?_
        simp -implicitDefEqProofs [hlo, hhi]
        exact ⟨_, _, ⟨rfl, rfl⟩, cv_idq (by simp [rfO])⟩
      · simp -implicitDefEqProofs [hlo, hhi, e1, e2, rfO]
        refine ⟨_, H.set j (rfO l nx.toNat (0, 0)), ?_, cv_idq (by simp [rfO, hto])⟩
        simp [hlo, hhi]; exact ⟨rfl, rfl⟩
  · simp -implicitDefEqProofs [hc, e1, rfO]
    refine call_go (by simpa [rp] using h61 c) ?_
    simp -implicitDefEqProofs [hc]
    exact ⟨_, _, ⟨rfl, rfl⟩, cv_idq (by simp [rfO])⟩
end
end Go.Proofs.Ytoghpbjllompaaa.Rc

/- R2a -/
namespace Go.Proofs.Ytoghpbjllompaaa.Rc
open Go.Ab
theorem orN {m y : Nat} (k : Nat) (hy : y < 2 ^ k) (h : m * 2 ^ k + y < 2 ^ 63) : bitsI .or .i64 ((m * 2 ^ k : Nat) : Int) (y : Int) = ((m * 2 ^ k + y : Nat) : Int) := by
  show IntKind.i64.wrap (((BitVec.ofInt 64 ((m * 2 ^ k : Nat) : Int) ||| BitVec.ofInt 64 (y : Int)).toNat : Nat) : Int) = _
  rw [BitVec.ofInt_natCast, BitVec.ofInt_natCast, BitVec.toNat_or, BitVec.toNat_ofNat, BitVec.toNat_ofNat, Nat.mod_eq_of_lt (by omega), Nat.mod_eq_of_lt (by omega), ← Nat.shiftLeft_eq, ← Nat.shiftLeft_add_eq_or_of_lt hy, Nat.shiftLeft_eq]
  exact wrap_id (by omega) (by omega)
theorem orI {x y : Int} (k : Nat) (hx : 0 ≤ x) (hd : x % (2 ^ k : Nat) = 0) (hy0 : 0 ≤ y) (hy : y < (2 ^ k : Nat)) (h : x + y < 9223372036854775808) : bitsI .or .i64 x y = x + y := by
  obtain ⟨xn, rfl⟩ : ∃ n : Nat, x = n := ⟨x.toNat, by omega⟩
  obtain ⟨yn, rfl⟩ : ∃ n : Nat, y = n := ⟨y.toNat, by omega⟩
  have hd' : xn % 2 ^ k = 0 := by omega
  obtain ⟨m, hm⟩ : ∃ m, xn = m * 2 ^ k := ⟨xn / 2 ^ k, by have := Nat.div_add_mod xn (2 ^ k); rw [hd', Nat.mul_comm] at this; omega⟩
  subst hm
  have := orN (m := m) (y := yn) k (by omega) (by omega)
  rw [this]; simp
/-- Four bytes put together. -/
theorem four {a b c d : Int} (ha : 0 ≤ a ∧ a < 256) (hb : 0 ≤ b ∧ b < 256) (hc : 0 ≤ c ∧ c < 256) (hd : 0 ≤ d ∧ d < 256) :
    bitsI .or .i64 (bitsI .or .i64 (bitsI .or .i64 (a * 16777216) (b * 65536)) (c * 256)) d = be 0 [a, b, c, d] := by
  rw [orI (x := a * 16777216) (y := b * 65536) 24 (by omega) (by omega) (by omega) (by omega) (by omega), orI (x := a * 16777216 + b * 65536) (y := c * 256) 16 (by omega) (by omega) (by omega) (by omega) (by omega),
    orI (x := a * 16777216 + b * 65536 + c * 256) (y := d) 8 (by omega) (by omega) (by omega) (by omega) (by omega)]
  simp [be]; omega
end Go.Proofs.Ytoghpbjllompaaa.Rc

/- R2 -/
namespace Go.Proofs.Ytoghpbjllompaaa.Rc
open Go.Ab
/-- A fault, unless there is one. -/
def errH (cur : Fl) : Option Nat → Fl
  | some i => if cur.1 = 0 then (3, i) else cur
  | none => cur
/-- A reader of the reference, whatever it holds. -/
def rfX (sx : SV) (a : Int) (e : Fl) : AO := ⟨[sx, i64 a, i64 e.1, i64 e.2], 100, 0, true⟩
section
variable {H : List AO}
theorem rfX_eq (l : List Int) (a : Nat) (e : Fl) : rfX (.slc (byts l) l.length) a e = rfO l a e := rfl
theorem ok61x {j : Nat} {sx : SV} {a : Int} {e0 : Fl} (ho : H[j]? = some (rfX sx a e0)) (e : Fl) : Ok Try.prog 61 [rp j, i64 e.1, i64 e.2] H (.ret (.tup [])) (H.set j (rfX sx a (if e0.1 = 0 then e else e0))) := by
  have hj := getElem?_lt ho
  have e1 : objCells H j 0 = (rfX sx a e0).cells := objCells_of (o := rfX sx a e0) ho rfl
  have e2 : ∀ f : AO → AO, Ab.setObj H j f = H.set j (f (rfX sx a e0)) := fun f => setObj_some ho f
  refine ok_fn hm Try.func61 c61 (by simp [rp, SV.under, hj]) fun hcl => ?_
  by_cases he : e0.1 = 0
  · rw [if_pos he]
    simp -implicitDefEqProofs [i61, r61, rp, e1, e2, rfX, he]
    exact cv_id
  · rw [if_neg he, set_same ho]
    simp -implicitDefEqProofs [i61, r61, rp, e1, e2, rfX, he]
    exact cv_id
theorem loop57 {b : List Int} {c : Int} {sx : SV} {a0 : Int} (hb : 7 ≤ b.length) (hbl : b.length ≤ 100000) {cur e : Fl} {e6 : SV} {N : Nat} {K : XE → Env → List AO → Prop}
    (hexit : ∀ env, env.get 0 = .slc (byts b) b.length → env.get 5 = rp H.length → env.get 6 = e6 → K (.exit 0) env (H ++ [rfX sx a0 e, ⟨[u8 80, u8 c, u8 1], 68, 0, true⟩])) :
    ∀ (n i : Nat) (cur : Fl) (env : Env), i + n = 3 → errH cur (hdR b ([80, c, 1].drop i) i) = e → env.get 0 = .slc (byts b) b.length → env.get 5 = rp H.length → env.get 6 = e6 → env.get 8 = .ptr (.own (H.length + 1) 0 0 0 0) 0 → env.get 9 = i64 i →
      LI Try.prog N drawB l57_0 env (H ++ [rfX sx a0 cur, ⟨[u8 80, u8 c, u8 1], 68, 0, true⟩]) K := by
  intro n
  induction n with
  | zero =>
    intro i cur env hi hr h0 h5 h6 h8 h9
    refine li_go hm l57_0.eq_1 ?_
    have e : i = 3 := by omega
    subst e
    have hr : cur = _ := hr
    subst hr
    simp -implicitDefEqProofs [h0, h5, h6, h8, h9]
    refine hexit _ ?_ ?_ ?_ <;> simp [h0, h5, h6]
  | succ n ih =>
    intro i cur env hi hr h0 h5 h6 h8 h9
    refine li_go hm l57_0.eq_1 ?_
    have hi3 : i < 3 := by omega
    have hlt : i < b.length := by omega
    have hlt3 : i < ([80, c, 1] : List Int).length := by simpa using hi3
    have w1 : IntKind.i64.wrap ((i : Int) + 1) = ((i + 1 : Nat) : Int) := wrap_succ (by omega)
    have hg : ([u8 80, u8 c, u8 1] : List SV)[i]? = some (u8 ([80, c, 1] : List Int)[i]) := by
      rcases i with _ | _ | _ | i
      · rfl
      · rfl
      · rfl
      · omega
    rw [List.drop_eq_getElem_cons hlt3] at hr
    simp only [hdR] at hr
    have hgd : b.getD i 0 = b[i] := by simp [hlt]
    rw [hgd] at hr
    generalize ([80, c, 1] : List Int)[i] = z at hr hg
    have hg' : ∀ h, ([u8 80, u8 c, u8 1] : List SV)[i]'h = u8 z := fun h => by
      have := List.getElem?_eq_getElem h
      rw [hg] at this; exact (Option.some.inj this).symm
    have hi3' : (i : Int) < 3 := by omega
    have hbt := byts_at hlt
    obtain ⟨y, hy⟩ : ∃ y, b[i] = y := ⟨_, rfl⟩
    rw [hy] at hbt hr
    simp only [rp] at h5
    simp -implicitDefEqProofs [h0, h5, h6, h8, h9, hi3, hi3', hlt, hbt, hy, hg, hg']
    repeat (refine And.intro (by omega) ?_)
    by_cases hz : y = z
    · rw [if_neg (by simpa using hz)] at hr
      simp -implicitDefEqProofs [hz, w1]
      refine ih (i + 1) cur _ (by omega) hr ?_ ?_ ?_ ?_ ?_ <;> simp [rp, h0, h6, h8]
    · rw [if_pos hz] at hr
      simp -implicitDefEqProofs [hz]
      refine call_go (by simpa [rp] using ok61x (H := H ++ [rfX sx a0 cur, ⟨[u8 80, u8 c, u8 1], 68, 0, true⟩]) (j := H.length) (sx := sx) (a := a0) (e0 := cur) (by simp) (3, (i : Int))) ?_
      simp -implicitDefEqProofs [h0, h5, h6, h8, h9, w1]
      refine LI.cong ?_ (ih (i + 1) (if cur.1 = 0 then (3, (i : Int)) else cur) _ (by omega) ?_ ?_ ?_ ?_ ?_ ?_)
      · rfl
      · rw [← hr]
        unfold errH
        by_cases hcur : cur.1 = 0
        · rw [if_pos hcur]
          cases hdR b (List.drop (i + 1) [80, c, 1]) (i + 1) <;> simp [hcur]
        · rw [if_neg hcur]
          cases hdR b (List.drop (i + 1) [80, c, 1]) (i + 1) <;> simp [hcur]
      all_goals simp [rp, h0, h6, h8]
/-- What opening a reader of the reference comes to. -/
def OpF (H : List AO) (r : Except Fl (List Int)) (o : Out) (H' : List AO) : Prop :=
  o = .ret (rp H.length) ∧ match r with
  | .ok l => H' = H ++ [rfO l 3 (0, 0)]
  | .error e => ∃ sx a, (sx = nl ∨ ∃ l, sx = .slc (byts l) l.length) ∧ H' = H ++ [rfX sx a e]
theorem ok57 {b : List Int} (ho : Oct b) (hlb : b.length < 4611686018427387904) (c : Int) : OkP Try.prog 57 [.slc (byts b) b.length, u8 c] H (OpF H (opnR b c)) := by
  unfold opnR
  refine okP_fn hm Try.func57 c57 (by simp) fun hcl => ?_
  by_cases h1 : 100000 < b.length
  · have h1' : 100000 < (b.length : Int) := by omega
    rw [if_pos h1]
    simp -implicitDefEqProofs [i57, r57, h1']
    refine And.intro rfl (call_go (by simpa [rp, rfX] using ok61x (H := H ++ [rfX nl 0 (0, 0)]) (j := H.length) (sx := nl) (a := 0) (e0 := (0, 0)) (by simp) (4, 100000)) ?_)
    simp -implicitDefEqProofs
    refine ⟨_, _, ⟨rfl, nl, 0, .inl rfl, rfl⟩, ?_⟩
    exact cv_idq rfl
  · have h1' : ¬ 100000 < (b.length : Int) := by omega
    rw [if_neg h1]
    by_cases h2 : b.length < 7
    · have h2' : (b.length : Int) < 7 := by omega
      rw [if_pos h2]
      simp -implicitDefEqProofs [i57, r57, h1', h2']
      refine And.intro rfl (call_go (by simpa [rp, rfX] using ok61x (H := H ++ [rfX nl 0 (0, 0)]) (j := H.length) (sx := nl) (a := 0) (e0 := (0, 0)) (by simp) (16, (b.length : Int))) ?_)
      simp -implicitDefEqProofs
      refine ⟨_, _, ⟨rfl, nl, 0, .inl rfl, rfl⟩, ?_⟩
      exact cv_idq rfl
    · have h2' : ¬ (b.length : Int) < 7 := by omega
      obtain ⟨e, he⟩ : ∃ e : Nat, b.length = e + 4 := ⟨b.length - 4, by omega⟩
      have w0 : IntKind.i64.wrap ((b.length : Int) - 4) = (e : Int) := by rw [wrap_id (by omega) (by omega)]; omega
      have w1 : IntKind.i64.wrap ((e : Int) + 1) = ((e + 1 : Nat) : Int) := wrap_id (by omega) (by omega)
      have w2 : IntKind.i64.wrap ((e : Int) + 2) = ((e + 2 : Nat) : Int) := wrap_id (by omega) (by omega)
      have w3 : IntKind.i64.wrap ((e : Int) + 3) = ((e + 3 : Nat) : Int) := wrap_id (by omega) (by omega)
      have t0 := byts_at (l := b) (k := e) (by omega)
      have t1 := byts_at (l := b) (k := e + 1) (by omega)
      have t2 := byts_at (l := b) (k := e + 2) (by omega)
      have t3 := byts_at (l := b) (k := e + 3) (by omega)
      have i0 : e < b.length := by omega
      have i1 : e + 1 < b.length := by omega
      have i2 : e + 2 < b.length := by omega
      have i3 : e + 3 < b.length := by omega
      obtain ⟨z0, hz0⟩ : ∃ z, b[e] = z := ⟨_, rfl⟩
      obtain ⟨z1, hz1⟩ : ∃ z, b[e + 1] = z := ⟨_, rfl⟩
      obtain ⟨z2, hz2⟩ : ∃ z, b[e + 2] = z := ⟨_, rfl⟩
      obtain ⟨z3, hz3⟩ : ∃ z, b[e + 3] = z := ⟨_, rfl⟩
      have b0 := ho _ (List.getElem_mem i0)
      have b1 := ho _ (List.getElem_mem i1)
      have b2 := ho _ (List.getElem_mem i2)
      have b3 := ho _ (List.getElem_mem i3)
      rw [hz0] at t0 b0
      rw [hz1] at t1 b1
      rw [hz2] at t2 b2
      rw [hz3] at t3 b3
      have hdrop : b.drop e = [z0, z1, z2, z3] := by
        rw [List.drop_eq_getElem_cons i0, List.drop_eq_getElem_cons i1, List.drop_eq_getElem_cons i2, List.drop_eq_getElem_cons i3, hz0, hz1, hz2, hz3, List.drop_of_length_le (by omega)]
      have hfour := four b0 b1 b2 b3
      rw [← hdrop] at hfour
      have n2 : ((e : Int) + 2).toNat = e + 2 := by omega
      have n3 : ((e : Int) + 3).toNat = e + 3 := by omega
      have p24 : (2 : Int) ^ min 24 IntKind.i64.bits = 16777216 := by decide
      have p16 : (2 : Int) ^ min 16 IntKind.i64.bits = 65536 := by decide
      have p8 : (2 : Int) ^ min 8 IntKind.i64.bits = 256 := by decide
      have v0 : IntKind.i64.wrap z0 = z0 := wrap_id (by omega) (by omega)
      have v1 : IntKind.i64.wrap z1 = z1 := wrap_id (by omega) (by omega)
      have v2 : IntKind.i64.wrap z2 = z2 := wrap_id (by omega) (by omega)
      have v3 : IntKind.i64.wrap z3 = z3 := wrap_id (by omega) (by omega)
      have v4 : IntKind.i64.wrap (z0 * 16777216) = z0 * 16777216 := wrap_id (by omega) (by omega)
      have v5 : IntKind.i64.wrap (z1 * 65536) = z1 * 65536 := wrap_id (by omega) (by omega)
      have v6 : IntKind.i64.wrap (z2 * 256) = z2 * 256 := wrap_id (by omega) (by omega)
      simp -implicitDefEqProofs [hz0, hz1, hz2, hz3, n2, n3, p24, p16, p8, v0, v1, v2, v3, v4, v5, v6, hfour, i57, r57, h1', h2', w0, w1, w2, w3, t0, t1, t2, t3, i0, i1, i2, i3]
      rw [if_neg h2]
      have he4 : b.length - 4 = e := by omega
      have heI : (b.length : Int) - 4 = e := by omega
      have htk : (byts b).take e = byts (b.take e) := byts_take _ _
      have htkl : (b.take e).length = e := by simp; omega
      have hoe : Oct (b.take e) := fun x hx => ho x (List.mem_of_mem_take hx)
      have h21 := ok21 (H := H ++ [rfX nl 0 (0, 0)]) (IsB.slc _ (b.take e)) hoe (by omega)
      rw [htkl, ← htk] at h21
      rw [he4, heI]
      refine And.intro rfl ?_
      repeat (refine And.intro (by omega) ?_)
      refine call_go (by simpa [rfX] using h21) ?_
      generalize sumV (b.take e) = sv at *
      generalize be 0 (b.drop e) = bv at *
      by_cases hs : bv = sv
      · rw [if_pos hs]
        simp -implicitDefEqProofs [hs]
        refine LI.cong (H' := H ++ [rfX nl 0 (0, 0), ⟨[u8 80, u8 c, u8 1], 68, 0, true⟩]) rfl (loop57 (b := b) (c := c) (sx := nl) (a0 := 0) (e := errH (0, 0) (hdR b [80, c, 1] 0)) (e6 := i64 e) (by omega) (by omega) (cur := (0, 0)) (fun env k0 k5 k6 => ?_) 3 0 (0, 0) _ rfl rfl ?_ ?_ ?_ ?_ ?_)
        · simp only [rp] at k5
          simp -implicitDefEqProofs [k0, k5, k6, rfX]
          refine And.intro (by omega) ?_
          rw [htk]
          cases hh : hdR b [80, c, 1] 0 with
          | none =>
            refine ⟨_, _, ⟨rfl, rfl⟩, ?_⟩
            refine cv_kp (H' := [rfO (b.take e) 3 (0, 0)]) 4 [0] hcl rfl ?_ ?_ ?_
            · unfold SV.fz; simp [SV.under, rp, placeOf]
            · simp [keptOk, fz_byts]
            · simp [keptO, rfO, rfX, htkl, errH, fz_byts]
          | some i =>
            refine ⟨_, _, ⟨rfl, _, 3, .inr ⟨b.take e, rfl⟩, rfl⟩, ?_⟩
            refine cv_kp (H' := [rfX (.slc (byts (b.take e)) (b.take e).length) 3 (3, (i : Int))]) 4 [0] hcl rfl ?_ ?_ ?_
            · unfold SV.fz; simp [SV.under, rp, placeOf]
            · simp [keptOk, fz_byts]
            · simp [keptO, rfO, rfX, htkl, errH, fz_byts]
        all_goals simp [rp]
      · rw [if_neg hs]
        have hs' : ¬ sv = bv := fun h => hs h.symm
        simp -implicitDefEqProofs [hs']
        refine call_go (by simpa [rp, rfX] using ok61x (H := H ++ [rfX nl 0 (0, 0)]) (j := H.length) (sx := nl) (a := 0) (e0 := (0, 0)) (by simp) (14, (e : Int))) ?_
        simp -implicitDefEqProofs
        refine LI.cong (H' := H ++ [rfX nl 0 (14, (e : Int)), ⟨[u8 80, u8 c, u8 1], 68, 0, true⟩]) rfl (loop57 (b := b) (c := c) (sx := nl) (a0 := 0) (e := (14, (e : Int))) (e6 := i64 e) (by omega) (by omega) (cur := (14, (e : Int))) (fun env k0 k5 k6 => ?_) 3 0 (14, (e : Int)) _ rfl (by cases hdR b (List.drop 0 [80, c, 1]) 0 <;> rfl) ?_ ?_ ?_ ?_ ?_)
        · simp only [rp] at k5
          simp -implicitDefEqProofs [k0, k5, k6, rfX]
          refine And.intro (by omega) ?_
          rw [htk]
          refine ⟨_, _, ⟨rfl, _, 3, .inr ⟨b.take e, rfl⟩, rfl⟩, ?_⟩
          refine cv_kp (H' := [rfX (.slc (byts (b.take e)) (b.take e).length) 3 (14, (e : Int))]) 4 [0] hcl rfl ?_ ?_ ?_
          · unfold SV.fz; simp [SV.under, rp, placeOf]
          · simp [keptOk, fz_byts]
          · simp [keptO, rfO, rfX, htkl, errH, fz_byts]
        all_goals simp [rp]
end
end Go.Proofs.Ytoghpbjllompaaa.Rc

/- R3 -/
namespace Go.Proofs.Ytoghpbjllompaaa.Rc
open Go.Ab
structure FS (A : List AO) (jr jg : Nat) (l : List Int) (pl : Int) (is : List (Int × Int)) (a m v : Nat) : Prop where
  r : A[jr]? = some (rfO l a (0, 0))
  g : A[jg]? = some (gO pl (.own A.length 0 m 6 v) is)
  ne : jr ≠ jg
def TF (A : List AO) (C : List SV) (v : Nat) (L : List AO) : List AO := A ++ ⟨C, 74, v, true⟩ :: L
/-- The reader carries a fault. -/
structure PanF (A : List AO) (jr jg : Nat) (l : List Int) (e : Fl) (H' : List AO) : Prop where
  len : A.length ≤ H'.length
  at_ : ∀ i, i < A.length → i ≠ jr → i ≠ jg → H'[i]? = A[i]?
  r : ∃ a, H'[jr]? = some (rfO l a e)
  ne : e.1 ≠ 0
def FrP (A : List AO) (jr jg : Nat) (l : List Int) (pl : Int) (is : List (Int × Int)) (m : Nat) (C : List SV) (L : List AO) (r : Except Fl (List Nd × Nat)) (o : Out) (H' : List AO) : Prop :=
  o = .ret (.tup []) ∧ match r with
  | .ok (sub, a') => ∃ A' v', Same A A' jr jg ∧ FS A' jr jg l pl is a' (m + sub.length) v' ∧ H' = TF A' (C ++ nds sub) v' L
  | .error e => PanF A jr jg l e H'
/-- The node at work. -/
def t7O (x : Nd) (wv pv q : SV) : AO := ⟨[i64 x.k, i64 x.p, i64 x.i, q, wv, pv], 74, 0, true⟩
section
variable {A : List AO} {jr jg : Nat} {l : List Int} {pl : Int} {is : List (Int × Int)} {a m v : Nat}
theorem FS.setr (h : FS A jr jg l pl is a m v) (a' : Nat) : FS (A.set jr (rfO l a' (0, 0))) jr jg l pl is a' m v :=
  ⟨by rw [List.getElem?_set_self (getElem?_lt h.r)], by rw [List.getElem?_set_ne h.ne]; simpa using h.g, h.ne⟩
theorem FS.setg (h : FS A jr jg l pl is a m v) (m' v' : Nat) : FS (A.set jg (gO pl (.own A.length 0 m' 6 v') is)) jr jg l pl is a m' v' :=
  ⟨by rw [List.getElem?_set_ne h.ne.symm]; exact h.r, by rw [List.getElem?_set_self (getElem?_lt h.g)]; simp, h.ne⟩
theorem FS.eg (h : FS A jr jg l pl is a m v) (L : List AO) : objCells (A ++ L) jg 0 = [i64 pl, .own A.length 0 m 6 v, .slc (infs is) is.length] := by
  rw [objCells_app L (getElem?_lt h.g)]; exact objCells_of (o := gO pl _ is) h.g rfl
theorem FS.er (h : FS A jr jg l pl is a m v) (L : List AO) : objCells (A ++ L) jr 0 = [.slc (byts l) l.length, i64 a, i64 0, i64 0] := by
  rw [objCells_app L (getElem?_lt h.r)]; exact objCells_of (o := rfO l a (0, 0)) h.r rfl
theorem FS.erT (h : FS A jr jg l pl is a m v) (C : List SV) (v' : Nat) (L : List AO) : objCells (TF A C v' L) jr 0 = [.slc (byts l) l.length, i64 a, i64 0, i64 0] := h.er _
theorem FS.sg (h : FS A jr jg l pl is a m v) (L : List AO) (f : AO → AO) : Ab.setObj (A ++ L) jg f = A.set jg (f (gO pl (.own A.length 0 m 6 v) is)) ++ L := by
  unfold Ab.setObj; rw [List.getElem?_append_left (getElem?_lt h.g), h.g]; simp only; rw [List.set_append_left _ _ (getElem?_lt h.g)]
theorem PanF.same {B H' : List AO} {e : Fl} (h : PanF B jr jg l e H') (hs : Same A B jr jg) : PanF A jr jg l e H' :=
  ⟨by have := h.len; rw [hs.len] at this; exact this, fun i hi h1 h2 => (h.at_ i (by rw [hs.len]; exact hi) h1 h2).trans (hs.at_ i h1 h2), h.r, h.ne⟩
theorem PanF.of (h : FS A jr jg l pl is a m v) (e : Fl) (he : e.1 ≠ 0) (a' : Nat) (L : List AO) : PanF A jr jg l e ((A ++ L).set jr (rfO l a' e)) := by
  have hj := getElem?_lt h.r
  refine ⟨by simp, fun i hi h1 h2 => ?_, ⟨a', by rw [List.getElem?_set_self (by simp; omega)]⟩, he⟩
  rw [List.getElem?_set_ne (fun e => h1 e.symm), List.getElem?_append_left hi]
/-- After a fault the children's loop ends at once. -/
theorem loopF60_2n {e : Fl} {H : List AO} {N : Nat} {K : XE → Env → List AO → Prop} (hr : H[jr]? = some (rfO l a e)) (he : e.1 ≠ 0) {n i : Int} {env : Env} (h0 : env.get 0 = rp jr) (h8 : env.get 8 = i64 n) (h12 : env.get 12 = i64 i)
    (hk : ∀ env, env.get 0 = rp jr → K (.exit 5) env H) : LI Try.prog N drawB l60_2 env H K := by
  refine li_go hm l60_2.eq_1 ?_
  have er : objCells H jr 0 = [.slc (byts l) l.length, i64 a, i64 e.1, i64 e.2] := objCells_of (o := rfO l a e) hr rfl
  simp only [rp] at h0
  by_cases hi : i < n
  · simp -implicitDefEqProofs [h0, h8, h12, er, he, hi]
    exact hk _ (by simp [h0, rp])
  · simp -implicitDefEqProofs [h0, h8, h12, er, he, hi]
    exact hk _ (by simp [h0, rp])
theorem loopF60_2 {f dep mm kk : Nat} {x : Nd} {wv pv : SV} {C P : List SV} {L B : List AO} (hC : C.length = mm * 6) (hP : P.length = 6) (hCo : cellsOk (C ++ P)) (hmm : mm < 2000) (hkk : kk ≤ 60) (hdep : dep ≤ 40) (hkb : ∀ p ∈ is, 0 ≤ p.2 ∧ p.2 ≤ 60)
    (hrec : ∀ (m a v : Nat) (A' : List AO) (C' : List SV) (L' : List AO), m ≤ 2000 → a ≤ l.length → C'.length = m * 6 → cellsOk C' → FS A' jr jg l pl is a m v →
      OkP Try.prog 60 [rp jr, rp jg, i64 ((dep + 1 : Nat) : Int)] (TF A' C' v L') (FrP A' jr jg l pl is m C' L' (treeR pl is l f (dep + 1) m a)))
    {r : Except Fl (List Int × List Nd × Nat)} {N : Nat} {K : XE → Env → List AO → Prop}
    (herr : ∀ e, r = .error e → ∀ env H', env.get 0 = rp jr → PanF A jr jg l e H' → K (.exit 5) env H')
    (hexit : ∀ nx sub a A' v M, r = .ok (nx, sub, a) → Same A A' jr jg → FS A' jr jg l pl is a (mm + 1 + sub.length) v → ∀ env, env.get 0 = rp jr → env.get 1 = rp jg → env.get 6 = i64 mm → env.get 7 = rp (A'.length + (L.length + 1)) →
      K (.exit 5) env (TF A' (C ++ P ++ nds sub) v (L ++ t7O x wv pv (.own (A'.length + (L.length + (B.length + 2))) 0 nx.length 1 nx.length) :: (B ++ ⟨ints nx, 3, nx.length, true⟩ :: M)))) :
    ∀ (n i a v : Nat) (nx : List Int) (sub : List Nd) (A' : List AO) (env : Env) (M : List AO), i + n = kk → nx.length = i → mm + 1 + sub.length ≤ 2000 → a ≤ l.length → Same A A' jr jg → FS A' jr jg l pl is a (mm + 1 + sub.length) v →
      (match kidsT (treeR pl is l f (dep + 1)) n (mm + 1 + sub.length) a with | .error e => Except.error e | .ok (nx', sub', a') => .ok (nx ++ nx', sub ++ sub', a')) = r →
      env.get 0 = rp jr → env.get 1 = rp jg → env.get 2 = i64 dep → env.get 6 = i64 mm → env.get 7 = rp (A'.length + (L.length + 1)) → env.get 8 = i64 kk → env.get 12 = i64 i →
      LI Try.prog N drawB l60_2 env (TF A' (C ++ P ++ nds sub) v (L ++ t7O x wv pv (.own (A'.length + (L.length + (B.length + 2))) 0 nx.length 1 nx.length) :: (B ++ ⟨ints nx, 3, nx.length, true⟩ :: M))) K := by
  intro n
  induction n with
  | zero =>
    intro i a v nx sub A' env M hi hnx hmz ha hs hT hr h0 h1 h2 h6 h7 h8 h12
    refine li_go hm l60_2.eq_1 ?_
    have e : i = kk := by omega
    subst e
    have hr : r = .ok (nx, sub, a) := by rw [← hr]; simp [kidsT]
    simp only [rp] at h0 h1 h7
    simp -implicitDefEqProofs [h0, h1, h2, h6, h7, h8, h12, hT.erT, -List.append_assoc]
    refine hexit nx sub a A' v M hr hs hT _ ?_ ?_ ?_ ?_ <;> simp [rp, h0, h1, h6, h7]
  | succ n ih =>
    intro i a v nx sub A' env M hi hnx hmz ha hs hT hr h0 h1 h2 h6 h7 h8 h12
    refine li_go hm l60_2.eq_1 ?_
    have hlt : i < kk := by omega
    have w1 : IntKind.i64.wrap ((i : Int) + 1) = ((i + 1 : Nat) : Int) := wrap_succ (by omega)
    have w2 : IntKind.i64.wrap ((dep : Int) + 1) = ((dep + 1 : Nat) : Int) := wrap_succ (by omega)
    have hcl : (C ++ P ++ nds sub).length = (mm + 1 + sub.length) * 6 := by simp only [List.length_append, nds_len, hC, hP]; omega
    simp only [rp] at h0 h1 h7
    unfold TF
    simp -implicitDefEqProofs [h0, h1, h2, h6, h7, h8, h12, hlt, rp, hT.eg, hT.er, w2, t7O]
    have w3 : ((mm : Int) + 1 + sub.length) = ((mm + 1 + sub.length : Nat) : Int) := by omega
    have hrc := hrec (mm + 1 + sub.length) a v A' (C ++ P ++ nds sub) (L ++ t7O x wv pv (.own (A'.length + (L.length + (B.length + 2))) 0 (nx.length + 1) 1 (nx.length + 1)) :: (B ++ ⟨ints (nx ++ [((mm + 1 + sub.length : Nat) : Int)]), 3, nx.length + 1, true⟩ :: (M ++ [⟨[i64 ((mm + 1 + sub.length : Nat) : Int)], 3, 0, true⟩]))) hmz ha hcl (by
      intro s hs
      rcases List.mem_append.1 hs with hs | hs
      · exact hCo s hs
      · exact nds_cell' _ s hs) hT
    have htn := fun (s : List Nd) (a1 : Nat) (h : treeR pl is l f (dep + 1) (mm + 1 + sub.length) a = .ok (s, a1)) => treeR_next hkb f (dep + 1) (mm + 1 + sub.length) a s a1 hmz ha h
    simp only [kidsT] at hr
    generalize treeR pl is l f (dep + 1) (mm + 1 + sub.length) a = q at *
    rw [w3]
    refine And.intro (by omega) (And.intro (by omega) (And.intro ?_ ?_))
    · refine ⟨⟨ints nx, 3, nx.length, true⟩, ?_, rfl, rfl, rfl, by simp [ints]⟩
      rw [show L.length + (B.length + 2) = (L.length + (B.length + 1)) + 1 by omega, List.getElem?_cons_succ, get_app, List.getElem?_cons_succ, get_app0]; rfl
    · refine callT rfl (by simp [rp]) (H' := TF A' (C ++ P ++ nds sub) v (L ++ t7O x wv pv (.own (A'.length + (L.length + (B.length + 2))) 0 (nx.length + 1) 1 (nx.length + 1)) :: (B ++ ⟨ints (nx ++ [((mm + 1 + sub.length : Nat) : Int)]), 3, nx.length + 1, true⟩ :: (M ++ [⟨[i64 ((mm + 1 + sub.length : Nat) : Int)], 3, 0, true⟩])))) (by simp [TF, t7O, ints]) (call_goP hrc ?_)
      rintro o H' ⟨rfl, ho⟩
      cases q with
      | error e =>
        obtain ⟨a1, hra⟩ := ho.r
        simp -implicitDefEqProofs [h12]
        refine loopF60_2n hra ho.ne (n := kk) (i := IntKind.i64.wrap (i + 1)) ?_ ?_ ?_ (fun env k0 => herr e hr.symm env H' k0 (ho.same hs))
        all_goals simp [rp, h0, h8, h12]
      | ok p =>
        obtain ⟨s, a'⟩ := p
        obtain ⟨A2, v2, hs2, hT2, rfl⟩ := ho
        have hn := htn s a' rfl
        simp only [] at hr
        simp -implicitDefEqProofs [h0, h1, h2, h6, h7, h8, h12, rp, w1]
        refine LI.cong (H' := TF A2 (C ++ P ++ nds (sub ++ s)) v2 (L ++ t7O x wv pv (.own (A2.length + (L.length + (B.length + 2))) 0 (nx ++ [((mm + 1 + sub.length : Nat) : Int)]).length 1 (nx ++ [((mm + 1 + sub.length : Nat) : Int)]).length) :: (B ++ ⟨ints (nx ++ [((mm + 1 + sub.length : Nat) : Int)]), 3, (nx ++ [((mm + 1 + sub.length : Nat) : Int)]).length, true⟩ :: (M ++ [⟨[i64 ((mm + 1 + sub.length : Nat) : Int)], 3, 0, true⟩])))) (by simp [TF, nds_app, hs2.len]) (ih (i + 1) a' v2 (nx ++ [((mm + 1 + sub.length : Nat) : Int)]) (sub ++ s) A2 _ _ (by omega) (by simp [hnx]) (by rw [List.length_append]; omega) hn.2.2.1 (hs.trans hs2) (by rw [List.length_append, ← Nat.add_assoc]; exact hT2) ?_ ?_ ?_ ?_ ?_ ?_ ?_ ?_)
        · rw [List.length_append, ← Nat.add_assoc, ← hr]
          cases kidsT (treeR pl is l f (dep + 1)) n (mm + 1 + sub.length + s.length) a' with
          | error e => rfl
          | ok z => obtain ⟨z1, z2, z3⟩ := z; simp
        all_goals simp [rp, hs2.len, h0, h1, h2, h6, h7, h8]
end
end Go.Proofs.Ytoghpbjllompaaa.Rc

