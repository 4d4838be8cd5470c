/-
  Steps of the proof: contracts of functions and plain facts that the statement rests on.
-/
import Derived.Test.YtffafdbipfadoaaC17
set_option linter.all false
namespace Go.Proofs.Ytffafdbipfadoaa
open Go.Ab
@[simp] theorem get_new (H L : List AO) (k : Nat) : (H ++ L)[H.length + k]? = L[k]? := by rw [List.getElem?_append_right (by omega)]; simp
@[simp] theorem get_new0 (H L : List AO) : (H ++ L)[H.length]? = L[0]? := get_new H L 0
def rowK (acc : List Int) : AO := ⟨ints acc, 3, acc.length, true⟩
section
variable {H : List AO}
theorem loop7a {l : List Int} {a n0 : Nat} {v1 v2 : SV} {N : Nat} {K : XE → Env → List AO → Prop}
    (hexit : ∀ env M, env.get 0 = .slc (ints l) l.length → env.get 1 = v1 → env.get 2 = v2 → env.get 7 = bl true → env.get 8 = .ptr (.own H.length 0 0 0 0) 0 → env.get 9 = .own (H.length + 1) 0 n0 1 n0 →
      K (.exit 0) env (H ++ drO l a :: ⟨ints (List.replicate n0 3600000), 3, n0, true⟩ :: M)) :
    ∀ (n k : Nat) (env : Env) (M : List AO), k + n = n0 → n0 ≤ 10 → env.get 0 = .slc (ints l) l.length → env.get 1 = v1 → env.get 2 = v2 → env.get 7 = bl true → env.get 8 = .ptr (.own H.length 0 0 0 0) 0 →
      env.get 9 = .own (H.length + 1) 0 k 1 k → env.get 10 = i64 n →
      LI Try.prog N drawB l7_0 env (H ++ drO l a :: ⟨ints (List.replicate k 3600000), 3, k, true⟩ :: M) K := by
  intro n
  induction n with
  | zero =>
    intro k env M hk h10 e0 e1 e2 e7 e8 e9 e10
    refine li_go hm l7_0.eq_1 ?_
    have e : k = n0 := by omega
    subst e
    simp -implicitDefEqProofs [e10]
    exact hexit _ M (by simp [e0]) (by simp [e1]) (by simp [e2]) (by simp [e7]) (by simp [e8]) (by simp [e9])
  | succ n ih =>
    intro k env M hk h10 e0 e1 e2 e7 e8 e9 e10
    refine li_go hm l7_0.eq_1 ?_
    simp -implicitDefEqProofs [e0, e1, e2, e7, e8, e9, e10, show 0 < (n : Int) + 1 by omega]
    refine ⟨by omega, by omega, ?_⟩
    rw [show ints (List.replicate k 3600000) ++ [i64 3600000] = ints (List.replicate (k + 1) 3600000) by rw [List.replicate_succ']; simp [ints]]
    refine ih (k + 1) _ _ (by omega) h10 ?_ ?_ ?_ ?_ ?_ ?_ ?_
    · simp [e0]
    · simp [e1]
    · simp [e2]
    · simp [e7]
    · simp [e8]
    · simp [e9]
    · simp [wrap_nat (show n ≤ 9223372036854775807 by omega)]
def tkO (ts : List Tk) : AO := ⟨tks ts, 46, ts.length, true⟩
theorem tks_snoc : ∀ (ts : List Tk) (t : Tk), tks (ts ++ [t]) = tks ts ++ [i64 t.p, i64 t.f, i64 t.t]
  | [], t => rfl
  | a :: r, t => by simp [tks, tks_snoc r]
theorem cellsOk_tks : ∀ l : List Tk, cellsOk (tks l) = True
  | [] => by simp [tks]
  | a :: r => by simp [tks, cellsOk_tks r]
set_option maxRecDepth 10000 in
theorem loop7b {l : List Int} (hl : l.length ≤ 90) {n : Nat} (hn : 2 ≤ n ∧ n ≤ 4) {A F : Int} (hA : 0 ≤ A ∧ A < 5000) (hF : 0 ≤ F ∧ F < 5000) {cb : AO} {M0 : List AO} {N : Nat} {K : XE → Env → List AO → Prop}
    (hexit : ∀ env i now L ts a M, Tn n A F i now L ts → i ≤ 30 → env.get 7 = bl true → env.get 9 = .own (H.length + 1) 0 n 1 n → env.get 11 = .ptr (.own (H.length + (M0.length + 1 + 1)) 0 0 0 0) 0 → env.get 12 = i64 0 → env.get 13 = i64 now →
      env.get 14 = .own (H.length + (M0.length + 1 + 1 + 1)) 0 ts.length 3 ts.length →
      K (.exit 2) env (H ++ drO l a :: ⟨ints L, 3, n, true⟩ :: (M0 ++ cb :: tkO ts :: M))) :
    ∀ (m i : Nat) (env : Env) (M : List AO) (now : Int) (L : List Int) (ts : List Tk) (a : Nat), i + m = 30 → Tn n A F i now L ts → a ≤ l.length → env.get 0 = .slc (ints l) l.length → env.get 1 = i64 A → env.get 2 = i64 F → env.get 7 = bl true →
      env.get 8 = .ptr (.own H.length 0 0 0 0) 0 → env.get 9 = .own (H.length + 1) 0 n 1 n → env.get 11 = .ptr (.own (H.length + (M0.length + 1 + 1)) 0 0 0 0) 0 → env.get 12 = i64 0 → env.get 13 = i64 now →
      env.get 14 = .own (H.length + (M0.length + 1 + 1 + 1)) 0 ts.length 3 ts.length → env.get 15 = i64 i →
      LI Try.prog N drawB l7_1 env (H ++ drO l a :: ⟨ints L, 3, n, true⟩ :: (M0 ++ cb :: tkO ts :: M)) K := by
  intro m
  induction m with
  | zero =>
    intro i env M now L ts a hi hT ha e0 e1 e2 e7 e8 e9 e11 e12 e13 e14 e15
    refine li_go hm l7_1.eq_1 ?_
    have e : i = 30 := by omega
    subst e
    simp -implicitDefEqProofs [e15, e0]
    exact hexit _ 30 now L ts a M hT (by omega) (by simp [e7]) (by simp [e9]) (by simp [e11]) (by simp [e12]) (by simp [e13]) (by simp [e14])
  | succ m ih =>
    intro i env M now L ts a hi hT ha e0 e1 e2 e7 e8 e9 e11 e12 e13 e14 e15
    refine li_go hm l7_1.eq_1 ?_
    have w0 : IntKind.i64.wrap (3 * (i : Int)) = 3 * (i : Int) := wrap_id (by omega) (by omega)
    by_cases hc : (3 * (i : Int)) < l.length
    · have hT' := hT
      have n0 := hT.n0
      have n1 := hT.n1
      have hlen := hT.len
      have htl := hT.tl
      have b1 := nx_bd (l := l) (a := a) (n := (n : Int)) (by omega)
      have c1 := nx_le (l := l) (n := (n : Int)) ha
      have b2 := nx_bd (l := l) (a := (nx l a n).2) (n := 1000) (by omega)
      have c2 := nx_le (l := l) (n := 1000) c1
      have b3 := nx_bd (l := l) (a := (nx l (nx l a n).2 1000).2) (n := 20000) (by omega)
      have c3 := nx_le (l := l) (n := 20000) c2
      simp -implicitDefEqProofs [e0, e1, e2, e7, e8, e9, e11, e12, e13, e14, e15, show (i : Int) < 30 by omega, w0, hc]
      refine call_go (ok30 (j := H.length) (l := l) (a := a) (by simp) ha (by omega) n (by omega)) ?_
      simp -implicitDefEqProofs [e0, e1, e2, e7, e8, e9, e11, e12, e13, e14, e15]
      refine call_go (ok30 (j := H.length) (l := l) (a := (nx l a n).2) (by simp) c1 (by omega) 1000 (by omega)) ?_
      generalize nx l a n = q1 at b1 c1 b2 c2 b3 c3 ⊢
      obtain ⟨p, a1⟩ := q1
      generalize nx l a1 1000 = q2 at b2 c2 b3 c3 ⊢
      obtain ⟨d, a2⟩ := q2
      have w1 : IntKind.i64.wrap (now + d) = now + d := wrap_id (by simp at b2; omega) (by simp at b2; omega)
      simp -implicitDefEqProofs [e0, e1, e2, e7, e8, e9, e11, e12, e13, e14, e15, w1]
      refine call_go (ok30 (j := H.length) (l := l) (a := a2) (by simp) c2 (by omega) 20000 (by omega)) ?_
      generalize nx l a2 20000 = q3 at b3 c3 ⊢
      obtain ⟨e, a3⟩ := q3
      simp only at b1 b2 b3 c1 c2 c3
      have hk : p.toNat < L.length := by omega
      have hst := hT.step hn hA hF (by omega) ⟨b1.1, b1.2⟩ b2 b3 hk
      have l1 := hT.lo _ (List.getElem_mem hk)
      have l2 := hT.hi _ (List.getElem_mem hk)
      have w2 : IntKind.i64.wrap (now + d + e) = now + d + e := wrap_id (by omega) (by omega)
      have w3 : IntKind.i64.wrap (now + d + e - (now + d)) = now + d + e - (now + d) := wrap_id (by omega) (by omega)
      have w4 : IntKind.i64.wrap (now + d + e - (now + d) - F) = now + d + e - (now + d) - F := wrap_id (by omega) (by omega)
      have w5 : IntKind.i64.wrap (L[p.toNat] - max 0 (now + d + e - (now + d) - F)) = L[p.toNat] - max 0 (now + d + e - (now + d) - F) := wrap_id (by omega) (by omega)
      have w6 : IntKind.i64.wrap (L[p.toNat] - max 0 (now + d + e - (now + d) - F) + A) = L[p.toNat] - max 0 (now + d + e - (now + d) - F) + A := wrap_id (by omega) (by omega)
      simp -implicitDefEqProofs [e0, e1, e2, e7, e8, e9, e11, e12, e13, e14, e15, w2, w3, w4, w5, w6, b1.1, b1.2, hk, hlen, tkO, tks_len, cellsOk_tks, ints_set hk]
      refine ⟨by omega, by omega, by omega, by omega, ?_⟩
      rw [show tks ts ++ [i64 p, i64 (now + d), i64 (now + d + e)] = tks (ts ++ [⟨p, now + d, now + d + e⟩]) from (tks_snoc ts ⟨p, now + d, now + d + e⟩).symm, show ts.length + 1 = (ts ++ [(⟨p, now + d, now + d + e⟩ : Tk)]).length by simp]
      refine ih (i + 1) _ _ (now + d + e) _ (ts ++ [⟨p, now + d, now + d + e⟩]) a3 (by omega) hst c3 ?_ ?_ ?_ ?_ ?_ ?_ ?_ ?_ ?_ ?_ ?_
      · simp [e0]
      · simp [e1]
      · simp [e2]
      · simp [e7]
      · simp [e8]
      · simp [e9]
      · simp [e11]
      · simp [e12]
      · simp
      · simp
      · simp [wrap_suc (show i < 9223372036854775807 by omega)]
    · simp -implicitDefEqProofs [e15, e0, show (i : Int) < 30 by omega, w0, hc]
      exact hexit _ i now L ts a M hT (by omega) (by simp [e7]) (by simp [e9]) (by simp [e11]) (by simp [e12]) (by simp [e13]) (by simp [e14])
theorem stc_run {n : Nat} {A F : Int} (hn : 2 ≤ n ∧ n ≤ 4) (hA : 0 ≤ A ∧ A < 5000) (hF : 0 ≤ F ∧ F < 5000) {i : Nat} {now : Int} {L : List Int} {ts : List Tk} (h : Tn n A F i now L ts) (hi : i ≤ 30) :
    (stc (List.replicate n 3600000) A F 0).run ts = (stc L A F now, 0, 0) := by
  have hg := stc_good (L := List.replicate n 3600000) (a := A) (f := F) (now := 0) (by simp; omega) (by simp; omega) (by intro x hx; simp at hx; omega) (by omega) (by omega) (by omega)
  have hc := (Ck.good _).2 hg
  have := h.tl
  unfold Ck.run
  rw [if_neg (by rw [hc]; simp), if_neg (by omega), if_neg (by rw [h.go]; simp), h.go]
theorem stc_new {n : Nat} {A F : Int} (hn : 2 ≤ n ∧ n ≤ 4) (hA : 0 ≤ A ∧ A < 5000) (hF : 0 ≤ F ∧ F < 5000) : Ck.new (List.replicate n 3600000) A F = (stc (List.replicate n 3600000) A F 0, 0) := by
  have hg := stc_good (L := List.replicate n 3600000) (a := A) (f := F) (now := 0) (by simp; omega) (by simp; omega) (by intro x hx; simp at hx; omega) (by omega) (by omega) (by omega)
  have hc := (Ck.good _).2 hg
  unfold Ck.new
  exact if_pos hc
set_option maxRecDepth 10000 in
/-- ClockTurns. -/
theorem ok7 (hK : Ok Try.prog 4 [] H (.ret (bl true)) H) {l : List Int} (add free : Int) : Ok Try.prog 7 [.slc (ints l) l.length, i64 add, i64 free] H (.ret (bl true)) H := by
  refine ok_fn hm Try.func7 c7 (by simp) fun hcl => ?_
  simp -implicitDefEqProofs [i7, r7]
  refine call_go hK ?_
  by_cases h1 : 90 < (l.length : Int)
  · simp -implicitDefEqProofs [h1]
    exact cv_id
  simp -implicitDefEqProofs [h1]
  have b0 := nx_bd (l := l) (a := 0) (n := 3) (by omega)
  have l0 := nx_le (l := l) (a := 0) (n := 3) (by omega)
  refine call_go (ok30 (j := H.length) (l := l) (a := 0) (by simp [drO]) (by omega) (by omega) 3 (by omega)) ?_
  obtain ⟨n, hn, hn2⟩ : ∃ n : Nat, 2 + (nx l 0 3).1 = n ∧ 2 ≤ n ∧ n ≤ 4 := ⟨(2 + (nx l 0 3).1).toNat, by omega, by omega, by omega⟩
  simp -implicitDefEqProofs [hn, wrap_nat (show n ≤ 9223372036854775807 by omega)]
  refine loop7a (l := l) (n0 := n) (fun env M e0 e1 e2 e7 e8 e9 => ?_) n 0 _ [] (by omega) (by omega) (by simp) (by simp; rfl) (by simp; rfl) (by simp) (by simp) (by simp) (by simp)
  simp -implicitDefEqProofs [e0, e1, e2, e7, e8, e9]
  refine call_go (ok29 add 5000 (by omega) (by omega)) ?_
  simp -implicitDefEqProofs [e0, e1, e2, e7, e8, e9]
  refine call_go (ok29 free 5000 (by omega) (by omega)) ?_
  have bA := mod_bd add 5000 (by omega)
  have bF := mod_bd free 5000 (by omega)
  generalize add % 5000 = A at bA ⊢
  generalize free % 5000 = F at bF ⊢
  simp -implicitDefEqProofs [e0, e1, e2, e7, e8, e9]
  refine call_go (ok10 (l := List.replicate n 3600000) (IsI.whole (T := 3) (k := 1) (ver := n) rfl (by simp)) (by simp; omega) A F) ?_
  rw [stc_new hn2 bA bF]
  simp -implicitDefEqProofs [e0, e1, e2, e7, e8, e9, sv_eq]
  refine loop7b (l := l) (by omega) hn2 bA bF (cb := ⟨(stc (List.replicate n 3600000) A F 0).cells, 24, 0, true⟩) (M0 := M) (fun env i now L ts a M' hT hi e7 e9 e11 e12 e13 e14 => ?_) 30 0 _ [] 0 (List.replicate n 3600000) [] (nx l 0 3).2 (by omega) (Tn.zero n A F) l0 ?_ ?_ ?_ ?_ ?_ ?_ ?_ ?_ ?_ ?_ ?_
  · have hts := hT.tl
    have hlen := hT.len
    simp -implicitDefEqProofs [e7, e9, e11, e12, e13, e14, Ck.cells]
    refine call_give (H.length + (M.length + 1 + 1 + 1)) 2 (o := tkO ts) (by simp [tkO]) rfl (args' := [(stc (List.replicate n 3600000) A F 0).sv, tksv ts]) (by simp [sv_eq, tksv, tkO, tks_len, List.take_of_length_le (Nat.le_of_eq (tks_len ts))]) (ok26 (c := stc (List.replicate n 3600000) A F 0) (l := ts) (by simp [stc]; omega)) ?_
    rw [stc_run hn2 bA bF hT hi]
    simp -implicitDefEqProofs [e7, e9, e11, e12, e13, e14, sv_eq, tkO]
    refine callq_st (fun _ => ok23s (l := L) (IsI.slc _ _) (IsI.whole (T := 3) (k := 1) (ver := n) rfl hlen.symm) (by omega)) ?_
    simp -implicitDefEqProofs [e7, e9, e11, e12, e13, e14, show (stc L A F now).fa = -1 from rfl, show (stc L A F now).t = -1 from rfl, show (stc L A F now).la = now from rfl]
    exact cv_fz 1 hcl rfl (by simp)
  · simp [e0]
  · simp
  · simp
  · simp [e7]
  · simp [e8]
  · simp [e9]
  · simp
  · simp
  · simp
  · simp
  · simp
end
end Go.Proofs.Ytffafdbipfadoaa
