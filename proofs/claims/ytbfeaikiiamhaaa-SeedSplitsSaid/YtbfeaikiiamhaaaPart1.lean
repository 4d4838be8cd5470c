/-
  Steps of the proof: contracts of functions and plain facts that the statement rests on.
-/
import Derived.Test.YtbfeaikiiamhaaaSK
set_option linter.all false
/- H1 -/
namespace Go.Proofs.Ytbfeaikiiamhaaa
open Go.Ab
theorem hm : Try.prog.follows .mixedOrders = true := Try.checked.mixed
/-- The error of radices. -/
def radR : List Int → Int
  | [] => 0
  | x :: r => if x < 1 ∨ 1000000000 < x then 2 else radR r
def radE (l : List Int) : Int := if 100 < (l.length : Int) then 4 else radR l
theorem radR_mem : ∀ {l : List Int}, radR l = 0 → ∀ x ∈ l, 1 ≤ x ∧ x ≤ 1000000000
  | [], _, x, hx => by simp at hx
  | y :: r, h, x, hx => by
    unfold radR at h
    split at h
    · omega
    · rcases List.mem_cons.1 hx with rfl | hx
      · omega
      · exact radR_mem h x hx
theorem radE_mem {l : List Int} (h : radE l = 0) : l.length ≤ 100 ∧ ∀ x ∈ l, 1 ≤ x ∧ x ≤ 1000000000 := by
  unfold radE at h
  split at h
  · omega
  · exact ⟨by omega, radR_mem h⟩
theorem wrap_suc {i : Nat} (h : i < 9223372036854775807) : IntKind.i64.wrap ((i : Int) + 1) = ((i + 1 : Nat) : Int) := wrap_succ (by omega)
section
variable {H : List AO} {x y : SV} {l m : List Int}
theorem radR_drop {i : Nat} (h : i < l.length) : radR (l.drop i) = if l[i] < 1 ∨ 1000000000 < l[i] then 2 else radR (l.drop (i + 1)) := by
  rw [List.drop_eq_getElem_cons h]; rfl
theorem loop43 (hx : IsI H x l) (hl : l.length < 4611686018427387904) {N : Nat} {K : XE → Env → List AO → Prop}
    (hret : radR l = 2 → ∀ env, env.get 2 = i64 2 → K .ret env H) (hexit : radR l = 0 → ∀ env, K (.exit 0) env H) :
    ∀ (n i : Nat) (env : Env), i + n = l.length → radR l = radR (l.drop i) → env.get 8 = x → env.get 9 = i64 l.length → env.get 10 = i64 i →
      LI Try.prog N drawB l43_0 env H K := by
  intro n
  induction n with
  | zero =>
    intro i env hi hp h8 h9 h10
    refine li_go hm l43_0.eq_1 ?_
    have e : i = l.length := by omega
    subst e
    simp -implicitDefEqProofs [h8, h9, h10]
    exact hexit (by rw [hp]; simp [radR]) _
  | succ n ih =>
    intro i env hi hp h8 h9 h10
    refine li_go hm l43_0.eq_1 ?_
    have hlt : i < l.length := by omega
    rw [radR_drop hlt] at hp
    simp -implicitDefEqProofs [h8, h9, h10, hlt, hx.vd, hx.ug, hx.sl, hx.len, hx.v hlt, hx.ok hlt, wrap_suc (show i < 9223372036854775807 by omega)]
    by_cases hc : l[i] < 1 ∨ 1000000000 < l[i]
    · rw [if_pos hc] at hp
      rw [if_pos hc]
      exact hret hp _ (by simp)
    · rw [if_neg hc] at hp
      rw [if_neg hc]
      refine ih (i + 1) _ (by omega) hp ?_ ?_ ?_ <;> simp [h8, h9]
theorem ok43 (hx : IsI H x l) (hl : l.length < 4611686018427387904) : Ok Try.prog 43 [x] H (.ret (i64 (radE l))) H := by
  refine ok_fn hm Try.func43 c43 (by simp) fun hcl => ?_
  by_cases h : 100 < (l.length : Int)
  · simp -implicitDefEqProofs [i43, r43, hx.vd, hx.ug, hx.sl, hx.len, h, radE]
    exact cv_id
  · simp -implicitDefEqProofs [i43, r43, hx.vd, hx.ug, hx.sl, hx.len, h, radE]
    refine loop43 hx hl (fun hr env h2 => ?_) (fun hr env => ?_) l.length 0 _ (by omega) (by simp) (by simp) (by simp) (by simp)
    · simp -implicitDefEqProofs [h2, hr]
      exact cv_id
    · simp -implicitDefEqProofs [hr]
      exact cv_id
theorem loop47 (hx : IsI H x l) (hl : l.length < 4611686018427387904) {N : Nat} {K : XE → Env → List AO → Prop}
    (hret : radR l = 2 → ∀ env, env.get 2 = i64 2 → K .ret env H) (hexit : radR l = 0 → ∀ env, K (.exit 0) env H) :
    ∀ (n i : Nat) (env : Env), i + n = l.length → radR l = radR (l.drop i) → env.get 0 = x → env.get 3 = i64 i →
      LI Try.prog N drawB l47_0 env H K := by
  intro n
  induction n with
  | zero =>
    intro i env hi hp h0 h3
    refine li_go hm l47_0.eq_1 ?_
    have e : i = l.length := by omega
    subst e
    simp -implicitDefEqProofs [h0, h3, hx.vd, hx.ug, hx.sl, hx.len]
    exact hexit (by rw [hp]; simp [radR]) _
  | succ n ih =>
    intro i env hi hp h0 h3
    refine li_go hm l47_0.eq_1 ?_
    have hlt : i < l.length := by omega
    rw [radR_drop hlt] at hp
    simp -implicitDefEqProofs [h0, h3, hlt, hx.vd, hx.ug, hx.sl, hx.len, hx.v hlt, hx.ok hlt, wrap_suc (show i < 9223372036854775807 by omega)]
    by_cases hc : l[i] < 1 ∨ 1000000000 < l[i]
    · rw [if_pos hc] at hp
      rw [if_pos hc]
      exact hret hp _ (by simp)
    · rw [if_neg hc] at hp
      rw [if_neg hc]
      refine ih (i + 1) _ (by omega) hp ?_ ?_ <;> simp [h0]
theorem ok47 (hx : IsI H x l) (hl : l.length < 4611686018427387904) : Ok Try.prog 47 [x] H (.ret (i64 (radE l))) H := by
  refine ok_fn hm Try.func47 c47 (by simp) fun hcl => ?_
  by_cases h : 100 < (l.length : Int)
  · simp -implicitDefEqProofs [i47, r47, hx.vd, hx.ug, hx.sl, hx.len, h, radE]
    exact cv_id
  · simp -implicitDefEqProofs [i47, r47, hx.vd, hx.ug, hx.sl, hx.len, h, radE]
    refine loop47 hx hl (fun hr env h2 => ?_) (fun hr env => ?_) l.length 0 _ (by omega) (by simp) (by simp) (by simp)
    · simp -implicitDefEqProofs [h2, hr]
      exact cv_id
    · simp -implicitDefEqProofs [hr]
      exact cv_id
theorem loop22 (hx : IsI H x l) (hy : IsI H y m) (hl : l.length < 4611686018427387904) (hlm : l.length = m.length) {N : Nat} {K : XE → Env → List AO → Prop}
    (hret : l ≠ m → ∀ env, env.get 4 = bl false → K .ret env H) (hexit : l = m → ∀ env, K (.exit 0) env H) :
    ∀ (n i : Nat) (env : Env), i + n = l.length → (∀ k (h : k < l.length), k < i → l[k] = m[k]'(by omega)) → env.get 0 = x → env.get 1 = y → env.get 5 = i64 i →
      LI Try.prog N drawB l22_0 env H K := by
  intro n
  induction n with
  | zero =>
    intro i env hi hp h0 h1 h5
    refine li_go hm l22_0.eq_1 ?_
    have e : i = l.length := by omega
    subst e
    simp -implicitDefEqProofs [h0, h1, h5, hx.vd, hx.ug, hx.sl, hx.len]
    exact hexit (List.ext_getElem hlm fun k h1 h2 => hp k h1 h1) _
  | succ n ih =>
    intro i env hi hp h0 h1 h5
    refine li_go hm l22_0.eq_1 ?_
    have hlt : i < l.length := by omega
    have hlt' : i < m.length := by omega
    simp -implicitDefEqProofs [h0, h1, h5, hlt, hlt', hx.vd, hx.ug, hx.sl, hx.len, hx.v hlt, hx.ok hlt, hy.vd, hy.ug, hy.sl, hy.len, hy.v hlt', hy.ok hlt']
    by_cases hc : l[i] = m[i]
    · rw [if_pos hc]
      refine ih (i + 1) _ (by omega) ?_ ?_ ?_ ?_
      rotate_left
      · simp [h0]
      · simp [h1]
      · simp [wrap_suc (show i < 9223372036854775807 by omega)]
      intro k hk hki
      by_cases e : k = i
      · subst e; exact hc
      · exact hp k hk (by omega)
    · rw [if_neg hc]
      exact hret (fun e => hc (by subst e; rfl)) _ (by simp)
theorem ok22 (hx : IsI H x l) (hy : IsI H y m) (hl : l.length < 4611686018427387904) : Ok Try.prog 22 [x, y] H (.ret (bl (decide (l = m)))) H := by
  refine ok_fn hm Try.func22 c22 (by simp) fun hcl => ?_
  by_cases hlm : l.length = m.length
  · simp -implicitDefEqProofs [i22, r22, hx.vd, hx.ug, hx.sl, hx.len, hy.vd, hy.ug, hy.sl, hy.len, hlm]
    refine loop22 hx hy hl hlm (fun hne env h4 => ?_) (fun he env => ?_) l.length 0 _ (by omega) (by omega) (by simp) (by simp) (by simp)
    · simp -implicitDefEqProofs [h4, hne]
      exact cv_id
    · simp -implicitDefEqProofs [he]
      exact cv_id
  · simp -implicitDefEqProofs [i22, r22, hx.vd, hx.ug, hx.sl, hx.len, hy.vd, hy.ug, hy.sl, hy.len, show ¬ ((l.length : Int) = m.length) by omega, hlm]
    have : l ≠ m := fun e => hlm (by rw [e])
    simp [this]
    exact cv_id
theorem ok22s (hx : IsI H x l) (hy : IsI H y l) (hl : l.length < 4611686018427387904) : Ok Try.prog 22 [x, y] H (.ret (bl true)) H := by simpa using ok22 hx hy hl
end
end Go.Proofs.Ytbfeaikiiamhaaa
/- H2 -/
namespace Go.Proofs.Ytbfeaikiiamhaaa
open Go.Ab
def sl (l : List Int) : SV := .slc (ints l) l.length
def digs : Int → List Int → List Int
  | _, [] => []
  | s, r :: l => s % r :: digs (s / r) l
def rest : Int → List Int → Int
  | s, [] => s
  | s, r :: l => rest (s / r) l
def splitV (s : Int) (l : List Int) : SV := if radE l ≠ 0 then .tup [sl [], i64 0, i64 (radE l)] else if s < 0 ∨ 1000000000000000 ≤ s then .tup [sl [], i64 0, i64 2] else .tup [sl (digs s l), i64 (rest s l), i64 0]
theorem digs_len : ∀ (s : Int) (l : List Int), (digs s l).length = l.length
  | _, [] => rfl
  | s, r :: l => by simp [digs, digs_len]
theorem digs_snoc : ∀ (s : Int) (l : List Int) (r : Int), digs s (l ++ [r]) = digs s l ++ [rest s l % r]
  | _, [], _ => rfl
  | s, x :: l, r => by simp [digs, rest, digs_snoc]
theorem rest_snoc : ∀ (s : Int) (l : List Int) (r : Int), rest s (l ++ [r]) = rest s l / r
  | _, [], _ => rfl
  | s, x :: l, r => by simp [rest, rest_snoc]
theorem rest_rng : ∀ {l : List Int} {s : Int}, (∀ x ∈ l, 1 ≤ x ∧ x ≤ 1000000000) → 0 ≤ s → 0 ≤ rest s l ∧ rest s l ≤ s
  | [], s, _, h => ⟨h, Int.le_refl _⟩
  | r :: l, s, hx, h => by
    have hr := (hx r (by simp)).1
    have h1 : 0 ≤ s / r := Int.ediv_nonneg h (by omega)
    have h2 : s / r ≤ s := Int.ediv_le_self _ h
    have := rest_rng (l := l) (fun x hx' => hx x (by simp [hx'])) h1
    simp only [rest]; omega
section
variable {H : List AO} {x : SV} {l : List Int}
def rwO (l : List Int) : AO := ⟨ints l, 3, l.length, true⟩
theorem loop27 (hx : IsI H x l) (hl : l.length ≤ 100) (hr : ∀ x ∈ l, 1 ≤ x ∧ x ≤ 1000000000) {s : Int} (h0s : 0 ≤ s) (hs : s < 1000000000000000) {N : Nat} {K : XE → Env → List AO → Prop}
    (hexit : ∀ env L, env.get 0 = i64 (rest s l) → env.get 4 = .own H.length 0 l.length 1 l.length → K (.exit 0) env (H ++ rwO (digs s l) :: L)) :
    ∀ (n i : Nat) (env : Env) (L : List AO), i + n = l.length → env.get 0 = i64 (rest s (l.take i)) → env.get 1 = x → env.get 4 = .own H.length 0 i 1 i → env.get 8 = i64 i →
      LI Try.prog N drawB l27_0 env (H ++ rwO (digs s (l.take i)) :: L) K := by
  intro n
  induction n with
  | zero =>
    intro i env L hi h0 h1 h4 h8
    refine li_go hm l27_0.eq_1 ?_
    have e : i = l.length := by omega
    subst e
    rw [List.take_length] at h0 ⊢
    simp -implicitDefEqProofs [h0, h1, h4, h8, hx.vd, hx.ug, hx.sl, hx.len]
    refine hexit _ L ?_ ?_ <;> simp [h0, h4]
  | succ n ih =>
    intro i env L hi h0 h1 h4 h8
    refine li_go hm l27_0.eq_1 ?_
    have hlt : i < l.length := by omega
    have hb := hr _ (List.getElem_mem hlt)
    have hq := rest_rng (l := l.take i) (s := s) (fun x hx => hr x (List.mem_of_mem_take hx)) h0s
    have dl : (digs s (l.take i)).length = i := by rw [digs_len]; simp; omega
    have e1 := digs_snoc s (l.take i) l[i]
    have e2 := rest_snoc s (l.take i) l[i]
    rw [← List.take_succ_eq_append_getElem hlt] at e1 e2
    simp -implicitDefEqProofs [h0, h1, h4, h8, hlt, hx.vd, hx.ug, hx.sl, hx.len, hx.vA _ hlt, hx.okA _ hlt, wrap_suc (show i < 9223372036854775807 by omega), rwO, dl]
    have t1 : (rest s (l.take i)).tmod l[i] = rest s (l.take i) % l[i] := Int.tmod_eq_emod_of_nonneg hq.1
    have t2 : (rest s (l.take i)).tdiv l[i] = rest s (l.take i) / l[i] := Int.tdiv_eq_ediv_of_nonneg hq.1
    have t3 : 0 ≤ rest s (l.take i) / l[i] := Int.ediv_nonneg hq.1 (by omega)
    have t4 : rest s (l.take i) / l[i] ≤ rest s (l.take i) := Int.ediv_le_self _ hq.1
    rw [t1, t2, wrap_id (n := rest s (l.take i) / l[i]) (by omega) (by omega)]
    refine ⟨by omega, by omega, by omega, by omega, ?_⟩
    refine LI.cong (H' := H ++ rwO (digs s (l.take (i + 1))) :: (L ++ [⟨[i64 (rest s (l.take i) % l[i])], 3, 0, true⟩])) (by simp [rwO, e1, dl, ints]) (ih (i + 1) _ _ (by omega) ?_ ?_ ?_ ?_)
    all_goals simp [e2, h1]
theorem ok27 (hx : IsI H x l) (hl : l.length < 4611686018427387904) (s : Int) : Ok Try.prog 27 [i64 s, x] H (.ret (splitV s l)) H := by
  refine ok_fn hm Try.func27 c27 (by simp) fun hcl => ?_
  by_cases h : radE l = 0
  · obtain ⟨hl2, hr⟩ := radE_mem h
    simp -implicitDefEqProofs [i27, r27]
    refine call_go (ok47 (hx.app _) hl) ?_
    by_cases hs : s < 0 ∨ 1000000000000000 ≤ s
    · simp -implicitDefEqProofs [h, hs]
      refine cv_fz 4 hcl rfl ?_
      simp [splitV, h, hs, sl, ints]
    · simp -implicitDefEqProofs [h, hs]
      refine LI.cong (H' := H ++ rwO (digs s (l.take 0)) :: []) (by simp [rwO, digs, ints]) (loop27 hx hl2 hr (s := s) (by omega) (by omega) (fun env L k0 k4 => ?_) l.length 0 _ [] (by omega) ?_ ?_ ?_ ?_)
      · simp -implicitDefEqProofs [k0, k4]
        refine cv_fz 4 hcl rfl ?_
        have := digs_len s l
        simp [splitV, h, hs, sl, rwO, this, List.take_of_length_le]
      all_goals simp [rest]
  · simp -implicitDefEqProofs [i27, r27]
    refine call_go (ok47 (hx.app _) hl) ?_
    simp -implicitDefEqProofs [h]
    refine cv_fz 4 hcl rfl ?_
    simp [splitV, h, sl, ints]
end
end Go.Proofs.Ytbfeaikiiamhaaa
/- H3 -/
namespace Go.Proofs.Ytbfeaikiiamhaaa
open Go.Ab
theorem fz_fn {n : Nat} {ks : List Nat} {L : List AO} {d : Nat} (f : Fn) (a b : List SV) : SV.fz n ks L (d + 2) (.fn f a b) = .fn f (a.map (SV.fz n ks L (d + 1))) (b.map (SV.fz n ks L (d + 1))) := by
  conv => lhs; unfold SV.fz
  split
  · rename_i h
    rw [SV.under, Bool.and_eq_true] at h
    rw [map_fz_under _ _ _ _ h.1, map_fz_under _ _ _ _ h.2]
  · rfl
def bxP (c : SV) : SV := .ptr (.slc [c] 0) 0
section
variable {H : List AO} {x : SV} {l : List Int}
theorem ok44 (hx : IsI H x l) (s : Int) : Ok Try.prog 44 [i64 s, x] H (.ret (.fn (.func 58) [] [bxP (i64 s), bxP x])) H := by
  refine ok_fn hm Try.func44 c44 (by simp) fun hcl => ?_
  simp -implicitDefEqProofs [i44, r44, hx.vd, hx.ug, hx.sl, hx.len, hx.cell, hx.flat]
  refine cv_fz 4 hcl rfl ?_
  simp [bxP, fz_fn, fz_under hx.und]
/-- All digits are handed to yield. -/
theorem loop58 {J : Nat → List AO → Prop} {n : Nat} {s : Int} (hl : l.length ≤ 100) (hr : ∀ x ∈ l, 1 ≤ x ∧ x ≤ 1000000000) (h0s : 0 ≤ s) (hs : s < 1000000000000000)
    (hx : ∀ i H, J i H → IsI H x l)
    (hy : ∀ i (h : i < l.length) H, J i H → YlP Try.prog n [i64 (rest s (l.take i) % l[i]), i64 (rest s (l.take i) / l[i])] H fun o H' => o = .ret (bl true) ∧ J (i + 1) H') {N : Nat} {K : XE → Env → List AO → Prop}
    (hexit : ∀ env H, J l.length H → K (.exit 0) env H) :
    ∀ (k i : Nat) (env : Env) (H : List AO), i + k = l.length → J i H → env.get 0 = .yl n → env.get 4 = i64 (rest s (l.take i)) → env.get 9 = x → env.get 10 = i64 l.length → env.get 11 = i64 i →
      LI Try.prog N drawB l58_0 env H K := by
  intro k
  induction k with
  | zero =>
    intro i env H hi hJ h0 h4 h9 h10 h11
    refine li_go hm l58_0.eq_1 ?_
    have e : i = l.length := by omega
    subst e
    simp -implicitDefEqProofs [h0, h4, h9, h10, h11]
    exact hexit _ _ hJ
  | succ k ih =>
    intro i env H hi hJ h0 h4 h9 h10 h11
    refine li_go hm l58_0.eq_1 ?_
    have hlt : i < l.length := by omega
    have hb := hr _ (List.getElem_mem hlt)
    have hq := rest_rng (l := l.take i) (s := s) (fun x hx => hr x (List.mem_of_mem_take hx)) h0s
    have e2 := rest_snoc s (l.take i) l[i]
    rw [← List.take_succ_eq_append_getElem hlt] at e2
    have t1 : (rest s (l.take i)).tmod l[i] = rest s (l.take i) % l[i] := Int.tmod_eq_emod_of_nonneg hq.1
    have t2 : (rest s (l.take i)).tdiv l[i] = rest s (l.take i) / l[i] := Int.tdiv_eq_ediv_of_nonneg hq.1
    have t3 : 0 ≤ rest s (l.take i) / l[i] := Int.ediv_nonneg hq.1 (by omega)
    have t4 : rest s (l.take i) / l[i] ≤ rest s (l.take i) := Int.ediv_le_self _ hq.1
    have w := wrap_id (n := rest s (l.take i) / l[i]) (by omega) (by omega)
    have hxi := hx i H hJ
    simp -implicitDefEqProofs [h0, h4, h9, h10, h11, hlt, hxi.vd, hxi.ug, hxi.sl, hxi.len, hxi.v hlt, hxi.ok hlt, t1, t2, w, wrap_suc (show i < 9223372036854775807 by omega)]
    refine ⟨by omega, call_yl (hy i hlt H hJ) ?_⟩
    rintro o H' ⟨rfl, hJ'⟩
    simp -implicitDefEqProofs [h0, h4, h9, h10, h11, wrap_suc (show i < 9223372036854775807 by omega)]
    refine ih (i + 1) _ H' (by omega) hJ' ?_ ?_ ?_ ?_ ?_
    all_goals simp [e2, h0, h9, h10]
theorem ok58 {J : Nat → List AO → Prop} {n : Nat} {s : Int} (hl : l.length ≤ 100) (hr : ∀ x ∈ l, 1 ≤ x ∧ x ≤ 1000000000) (h0s : 0 ≤ s) (hs : s < 1000000000000000)
    (hx : ∀ i H, J i H → IsI H x l)
    (hy : ∀ i (h : i < l.length) H, J i H → YlP Try.prog n [i64 (rest s (l.take i) % l[i]), i64 (rest s (l.take i) / l[i])] H fun o H' => o = .ret (bl true) ∧ J (i + 1) H')
    (hJ : J 0 H) : OkP Try.prog 58 [.yl n, bxP (i64 s), bxP x] H fun o H' => (∃ v, o = .ret v) ∧ J l.length H' := by
  refine okP_fn hm Try.func58 c58 (by simp) fun hcl => ?_
  have hx0 := hx 0 H hJ
  simp -implicitDefEqProofs [i58, r58, bxP, hx0.vd, hx0.ug, hx0.sl, hx0.len, hx0.flat, hx0.cell]
  refine loop58 (J := J) hl hr h0s hs hx hy (fun env H' hJ' => ?_) l.length 0 _ H (by omega) hJ ?_ ?_ ?_ ?_ ?_
  · simp -implicitDefEqProofs
    exact ⟨_, _, ⟨⟨_, rfl⟩, hJ'⟩, cv_id⟩
  all_goals simp [rest]
end
end Go.Proofs.Ytbfeaikiiamhaaa
/- H4 -/
namespace Go.Ab
theorem OkP.tell {P : Program} {f : FuncId} {args : List SV} {H H' : List AO} {Pt : Out → List AO → Prop} (ht : Tell [] H [] H') (hl : H.length ≤ H'.length) (h : OkP P f args H' Pt) : OkP P f args H Pt := by
  refine ⟨h.1, ?_⟩
  intro S vs hH hS hvs
  obtain ⟨ρ', h1, h2, _⟩ := ht S #[] hH hS ⟨fun t => .any _⟩
  have h3 := h.2 ⟨ρ', H', S.w⟩ vs rfl h2 (hvs.ext h1)
  refine h3.mono ?_
  rintro en w' ⟨out, H2, v, ρ2, hp, hext, hsim, hout⟩
  exact ⟨out, H2, v, ρ2, hp, h1.trans (hext.mono (by subst hH; exact hl)), hsim, hout⟩
theorem yl_go {P : Program} {N : Nat} (hm : P.follows .mixedOrders = true) {i kk : Nat} {ps : List Nat} {ia ib ia' ib' : IC} {env : Env} {args : List SV} {H : List AO} {Pt : Out → List AO → Prop} (hia : ia = ia') (hib : ib = ib')
    (ho : H[i]? = some (lpo P N drawB kk ps ia ib (env.vals N) .ready)) (he : (env.all fun p => decide (p.1 < N)) = true) (hp : (ps.all fun p => decide (p < N)) = true) (hl : args.length = ps.length)
    (hx : closed H → X P N drawB ia' (env.puts ps args) H fun x env1 H1 => x = .normal ∧ ∃ cs, H1[i]? = some (lpo P N drawB kk ps ia ib cs .ready) ∧ X P N drawB ib' env1 (H1.set i (lpo P N drawB kk ps ia ib cs .busy)) (FinR P N kk ps ia ib i H.length Pt)) :
    YlP P i args H Pt := by
  subst hia hib
  exact yl_ok hm ho he hp hl hx
theorem cv_idq {n0 : Nat} {v : SV} {H1 H' : List AO} (h : H1 = H') : Cv n0 v H1 v H' := by subst h; exact cv_id
theorem le_tup {l l' : List SV} (h : leL l l') : SV.le (.tup l) (.tup l') := by
  intro S v hv
  cases hv with
  | tup _ us hl hh => have := h.vrs ⟨hl, hh⟩; exact .tup _ _ this.1 this.2
end Go.Ab
namespace Go.Proofs.Ytbfeaikiiamhaaa
open Go.Ab
section
variable {H : List AO} {x : SV} {l : List Int}
def sH21 (H : List AO) (lo : AO) (s : Int) (l : List Int) (L : List AO) : List AO :=
  H ++ ⟨[.own (H.length + 3) 0 l.length 1 l.length], 35, 0, true⟩ :: ⟨[i64 (rest s l)], 3, 0, true⟩ :: lo :: rwO (digs s l) :: L
def e21 (H : List AO) (c : SV) : Env := [(4, .ptr (.own H.length 0 0 0 0) 0), (5, .ptr (.own (H.length + 1) 0 0 0 0) 0), (24, c)]
theorem round21 {c : SV} {s : Int} (hl : l.length ≤ 100) (hr : ∀ x ∈ l, 1 ≤ x ∧ x ≤ 1000000000) (h0s : 0 ≤ s) {i : Nat} (hi : i < l.length) (L : List AO) :
    YlP Try.prog (H.length + 2) [i64 (rest s (l.take i) % l[i]), i64 (rest s (l.take i) / l[i])] (sH21 H (lpo Try.prog 34 drawB 0 [25, 26] ya21_0 yb21_0 ((e21 H c).vals 34) .ready) s (l.take i) L) fun o H' =>
      o = .ret (bl true) ∧ ∃ L, H' = sH21 H (lpo Try.prog 34 drawB 0 [25, 26] ya21_0 yb21_0 ((e21 H c).vals 34) .ready) s (l.take (i + 1)) L := by
  have e1 := digs_snoc s (l.take i) l[i]
  have e2 := rest_snoc s (l.take i) l[i]
  rw [← List.take_succ_eq_append_getElem hi] at e1 e2
  have dl : (digs s (l.take i)).length = i := by rw [digs_len]; simp; omega
  have hil : min i l.length = i := by omega
  refine yl_go (N := 34) (env := e21 H c) hm ya21_0.eq_1 yb21_0.eq_1 (by simp [sH21]; rfl) (by simp [e21]) (by decide) rfl fun hcl => ?_
  generalize hlo : lpo Try.prog 34 drawB 0 [25, 26] ya21_0 yb21_0 ((e21 H c).vals 34) .ready = lo
  simp -implicitDefEqProofs [e21, sH21, rwO, dl, hil]
  refine ⟨_, hlo.symm, by omega, by omega, _, by simp; rfl, .ready, true, _, ⟨rfl, rfl⟩, ⟨rfl, L ++ [⟨[i64 (rest s (l.take i) % l[i])], 3, 0, true⟩], rfl⟩, cv_idq ?_⟩
  have em : min (i + 1) l.length = i + 1 := by omega
  simp [set_app, e1, e2, em, dl, hlo, ints]
theorem ok21 (hx : IsI H x l) (hl : l.length < 4611686018427387904) (s : Int) : Ok Try.prog 21 [i64 s, x] H (.ret (splitV s l)) H := by
  refine ok_fn hm Try.func21 c21 (by simp) fun hcl => ?_
  by_cases h : radE l = 0
  · obtain ⟨hl2, hr⟩ := radE_mem h
    simp -implicitDefEqProofs [i21, r21, hx.vd, hx.ug]
    refine call_go (ok43 (hx.app _) hl) ?_
    by_cases hs : s < 0 ∨ 1000000000000000 ≤ s
    · simp -implicitDefEqProofs [h, hs]
      refine ⟨rfl, Cv.le (cv_fz 4 hcl rfl rfl) ?_⟩
      simp [splitV, h, hs, sl, ints]
      exact le_tup (leL.cons le_nil (leL.cons (SV.le.refl _) (leL.cons (SV.le.refl _) leL.nil)))
    · simp -implicitDefEqProofs [h, hs, hx.vd, hx.ug]
      refine call_go (ok44 (hx.app _) s) ?_
      simp -implicitDefEqProofs [h, hs]
      refine rg_go (Pt := fun o H' => (∃ v, o = .ret v) ∧ ∃ L, H' = sH21 H (lpo Try.prog 34 drawB 0 [25, 26] ya21_0 yb21_0 ((e21 H (.fn (.func 58) [] [bxP (i64 s), bxP x])).vals 34) .ready) s l L) ?_ ?_
      · refine OkP.tell (Tell.own0 (j := H.length) (p := 0) (o := ⟨[.val (.slice none 0 0)], 35, 0, true⟩) (by simp) rfl rfl 3 1) (by simp) ?_
        refine OkP.cast (args' := [.yl (H.length + 2), bxP (i64 s), bxP x]) (H' := sH21 H (lpo Try.prog 34 drawB 0 [25, 26] ya21_0 yb21_0 ((e21 H (.fn (.func 58) [] [bxP (i64 s), bxP x])).vals 34) .ready) s [] []) (by simp) (by simp [sH21, e21, digs, rest, rwO, ints, set_app]) ?_
        refine (ok58 (J := fun i H' => ∃ L, H' = sH21 H (lpo Try.prog 34 drawB 0 [25, 26] ya21_0 yb21_0 ((e21 H (.fn (.func 58) [] [bxP (i64 s), bxP x])).vals 34) .ready) s (l.take i) L) (n := H.length + 2) (s := s) hl2 hr (by omega) (by omega) ?_ ?_ ⟨[], by simp⟩).mono ?_
        · rintro i H' ⟨L, rfl⟩
          exact hx.app _
        · rintro i hi H' ⟨L, rfl⟩
          exact round21 hl2 hr (by omega) hi L
        · rintro o H' ⟨hv, L, hH⟩
          rw [List.take_length] at hH
          exact ⟨hv, L, hH⟩
      · rintro out H' ⟨⟨v, rfl⟩, L, rfl⟩
        refine ⟨.ready, _, by simp [sH21]; rfl, ?_⟩
        simp -implicitDefEqProofs [sH21]
        refine cv_fz 4 hcl rfl ?_
        have := digs_len s l
        simp [splitV, h, hs, sl, rwO, this, List.take_of_length_le]
  · simp -implicitDefEqProofs [i21, r21, hx.vd, hx.ug]
    refine call_go (ok43 (hx.app _) hl) ?_
    simp -implicitDefEqProofs [h]
    refine ⟨rfl, Cv.le (cv_fz 4 hcl rfl rfl) ?_⟩
    simp [splitV, h, sl, ints]
    exact le_tup (leL.cons le_nil (leL.cons (SV.le.refl _) (leL.cons (SV.le.refl _) leL.nil)))
end
end Go.Proofs.Ytbfeaikiiamhaaa
/- H5 -/
namespace Go.Proofs.Ytbfeaikiiamhaaa
open Go.Ab
def dgR : List Int → List Int → Int
  | d :: ds, r :: l => if d < 0 ∨ r ≤ d then 2 else dgR ds l
  | _, _ => 0
def jn (d l : List Int) : Nat → Int → Option Int
  | 0, s => some s
  | k + 1, s => if (999999999999999 - d.getD k 0) / l.getD k 0 < s then none else jn d l k (s * l.getD k 0 + d.getD k 0)
def jp : Option Int → Int × Int
  | none => (0, 5)
  | some n => (n, 0)
def joinP (d l : List Int) (s : Int) : Int × Int :=
  if radE l ≠ 0 then (0, radE l) else if d.length ≠ l.length then (0, 10) else if dgR d l ≠ 0 then (0, 2) else if s < 0 ∨ 1000000000000000 ≤ s then (0, 2) else jp (jn d l l.length s)
def tup2 (p : Int × Int) : SV := .tup [i64 p.1, i64 p.2]
theorem dgR_drop {d l : List Int} {i : Nat} (hd : i < d.length) (hl : i < l.length) : dgR (d.drop i) (l.drop i) = if d[i] < 0 ∨ l[i] ≤ d[i] then 2 else dgR (d.drop (i + 1)) (l.drop (i + 1)) := by
  rw [List.drop_eq_getElem_cons hd, List.drop_eq_getElem_cons hl]; rfl
theorem dgR_at : ∀ {d l : List Int}, dgR d l = 0 → ∀ (i : Nat) (hd : i < d.length) (hl : i < l.length), 0 ≤ d[i] ∧ d[i] < l[i]
  | [], _, _, i, hd, _ => by simp at hd
  | _ :: _, [], _, i, _, hl => by simp at hl
  | a :: d, r :: l, h, i, hd, hl => by
    unfold dgR at h
    split at h
    · omega
    · cases i with
      | zero => simp; omega
      | succ i => simpa using dgR_at h i (by simpa using hd) (by simpa using hl)
section
variable {H : List AO} {x y : SV} {l d : List Int}
theorem loop28_0 (hy : IsI H y d) (hx : IsI H x l) (hdl : d.length = l.length) (hl : l.length ≤ 100) {s : Int} {N : Nat} {K : XE → Env → List AO → Prop}
    (hret : dgR d l ≠ 0 → ∀ env, env.get 6 = i64 0 → env.get 7 = i64 2 → K .ret env H) (hexit : dgR d l = 0 → ∀ env, env.get 0 = y → env.get 1 = x → env.get 2 = i64 s → K (.exit 0) env H) :
    ∀ (n i : Nat) (env : Env), i + n = l.length → dgR d l = dgR (d.drop i) (l.drop i) → env.get 0 = y → env.get 1 = x → env.get 2 = i64 s → env.get 23 = y → env.get 24 = i64 l.length → env.get 25 = i64 i →
      LI Try.prog N drawB l28_0 env H K := by
  intro n
  induction n with
  | zero =>
    intro i env hi hp h0 h1 h2 h23 h24 h25
    refine li_go hm l28_0.eq_1 ?_
    have e : i = l.length := by omega
    subst e
    simp -implicitDefEqProofs [h0, h1, h2, h23, h24, h25]
    refine hexit (by rw [hp]; simp [← hdl, dgR]) _ ?_ ?_ ?_ <;> simp [h0, h1, h2]
  | succ n ih =>
    intro i env hi hp h0 h1 h2 h23 h24 h25
    refine li_go hm l28_0.eq_1 ?_
    have hlt : i < l.length := by omega
    have hlt' : i < d.length := by omega
    rw [dgR_drop hlt' hlt] at hp
    simp -implicitDefEqProofs [h0, h1, h2, h23, h24, h25, hlt, hlt', hx.vd, hx.ug, hx.sl, hx.len, hx.v hlt, hx.ok hlt, hy.vd, hy.ug, hy.sl, hy.len, hy.v hlt', hy.ok hlt', wrap_suc (show i < 9223372036854775807 by omega)]
    by_cases hc : d[i] < 0 ∨ l[i] ≤ d[i]
    · rw [if_pos hc] at hp
      simp -implicitDefEqProofs [hc]
      exact hret (by omega) _ (by simp) (by simp)
    · rw [if_neg hc] at hp
      simp -implicitDefEqProofs [hc]
      refine ih (i + 1) _ (by omega) hp ?_ ?_ ?_ ?_ ?_ ?_ <;> simp [h0, h1, h2, h23, h24]
theorem loop28_1 (hy : IsI H y d) (hx : IsI H x l) (hdl : d.length = l.length) (hl : l.length ≤ 100) (hr : ∀ x ∈ l, 1 ≤ x ∧ x ≤ 1000000000) (hd : dgR d l = 0) {o : Option Int} {N : Nat} {K : XE → Env → List AO → Prop}
    (hret : o = none → ∀ env, env.get 6 = i64 0 → env.get 7 = i64 5 → K .ret env H) (hexit : ∀ n, o = some n → ∀ env, env.get 11 = i64 n → K (.exit 2) env H) :
    ∀ (n : Nat) (s : Int) (env : Env), n ≤ l.length → 0 ≤ s → s ≤ 999999999999999 → o = jn d l n s → env.get 0 = y → env.get 1 = x → env.get 11 = i64 s → env.get 12 = i64 ((n : Int) - 1) →
      LI Try.prog N drawB l28_1 env H K := by
  intro n
  induction n with
  | zero =>
    intro s env hn h0s hs ho h0 h1 h11 h12
    refine li_go hm l28_1.eq_1 ?_
    simp -implicitDefEqProofs [h0, h1, h11, h12]
    exact hexit s ho _ (by simp [h11])
  | succ n ih =>
    intro s env hn h0s hs ho h0 h1 h11 h12
    refine li_go hm l28_1.eq_1 ?_
    have hlt : n < l.length := by omega
    have hlt' : n < d.length := by omega
    obtain ⟨b1, b2⟩ := dgR_at hd n hlt' hlt
    obtain ⟨r1, r2⟩ := hr _ (List.getElem_mem hlt)
    have e12 : env.get 12 = i64 (n : Int) := by rw [h12]; congr 1; omega
    have g1 : d.getD n 0 = d[n] := by simp [hlt']
    have g2 : l.getD n 0 = l[n] := by simp [hlt]
    unfold jn at ho
    rw [g1, g2] at ho
    have w1 : IntKind.i64.wrap (999999999999999 - d[n]) = 999999999999999 - d[n] := wrap_id (by omega) (by omega)
    have t2 : (999999999999999 - d[n]).tdiv l[n] = (999999999999999 - d[n]) / l[n] := Int.tdiv_eq_ediv_of_nonneg (by omega)
    have t3 : 0 ≤ (999999999999999 - d[n]) / l[n] := Int.ediv_nonneg (by omega) (by omega)
    have t4 : (999999999999999 - d[n]) / l[n] ≤ 999999999999999 - d[n] := Int.ediv_le_self _ (by omega)
    have w2 : IntKind.i64.wrap ((999999999999999 - d[n]) / l[n]) = (999999999999999 - d[n]) / l[n] := wrap_id (by omega) (by omega)
    simp -implicitDefEqProofs [h0, h1, h11, e12, hlt, hlt', hx.vd, hx.ug, hx.sl, hx.len, hx.v hlt, hx.ok hlt, hy.vd, hy.ug, hy.sl, hy.len, hy.v hlt', hy.ok hlt', w1, t2, w2]
    refine ⟨by omega, ?_⟩
    by_cases hc : (999999999999999 - d[n]) / l[n] < s
    · rw [if_pos hc] at ho
      rw [if_pos hc]
      exact hret ho _ (by simp) (by simp)
    · rw [if_neg hc] at ho
      rw [if_neg hc]
      have m1 : s * l[n] ≤ 999999999999999 - d[n] := (Int.le_ediv_iff_mul_le (by omega)).1 (by omega)
      have m2 : 0 ≤ s * l[n] := Int.mul_nonneg h0s (by omega)
      rw [wrap_id (n := s * l[n]) (by omega) (by omega), wrap_id (n := s * l[n] + d[n]) (by omega) (by omega), wrap_id (n := (n : Int) - 1) (by omega) (by omega)]
      refine ih (s * l[n] + d[n]) _ (by omega) (by omega) (by omega) ho ?_ ?_ ?_ ?_ <;> simp [h0, h1]
theorem ok28 (hy : IsI H y d) (hx : IsI H x l) (hl : l.length < 4611686018427387904) (s : Int) : Ok Try.prog 28 [y, x, i64 s] H (.ret (tup2 (joinP d l s))) H := by
  refine ok_fn hm Try.func28 c28 (by simp) fun hcl => ?_
  simp -implicitDefEqProofs [i28, r28, hx.vd, hx.ug]
  refine call_go (ok43 hx hl) ?_
  by_cases h : radE l = 0
  · obtain ⟨hl2, hr⟩ := radE_mem h
    by_cases hdl : d.length = l.length
    · simp -implicitDefEqProofs [h, hdl, hx.vd, hx.ug, hx.sl, hx.len, hy.vd, hy.ug, hy.sl, hy.len]
      refine loop28_0 hy hx hdl hl2 (s := s) (fun hr env k6 k7 => ?_) (fun hd env k0 k1 k2 => ?_) l.length 0 _ (by omega) (by simp) ?_ ?_ ?_ ?_ ?_ ?_
      · simp -implicitDefEqProofs [k6, k7, joinP, tup2, h, hdl, hr]
        exact cv_id
      · by_cases hs : s < 0 ∨ 1000000000000000 ≤ s
        · simp -implicitDefEqProofs [k0, k1, k2, joinP, tup2, h, hdl, hd, hs]
          exact cv_id
        · simp -implicitDefEqProofs [k0, k1, k2, hs, hy.vd, hy.ug, hy.sl, hy.len, hdl]
          rw [wrap_id (n := (l.length : Int) - 1) (by omega) (by omega)]
          refine loop28_1 hy hx hdl hl2 hr hd (o := jn d l l.length s) (fun ho env k6 k7 => ?_) (fun n ho env k11 => ?_) l.length s _ (by omega) (by omega) (by omega) rfl ?_ ?_ ?_ ?_
          · simp -implicitDefEqProofs [k6, k7, joinP, tup2, h, hdl, hd, hs, ho, jp]
            exact cv_id
          · simp -implicitDefEqProofs [k11, joinP, tup2, h, hdl, hd, hs, ho, jp]
            exact cv_id
          all_goals simp [k0, k1]
      all_goals simp
    · simp -implicitDefEqProofs [h, hdl, hx.vd, hx.ug, hx.sl, hx.len, hy.vd, hy.ug, hy.sl, hy.len, show ¬ ((d.length : Int) = l.length) by omega, joinP, tup2]
      exact cv_id
  · simp -implicitDefEqProofs [h, joinP, tup2]
    exact cv_id
end
end Go.Proofs.Ytbfeaikiiamhaaa
/- H6 -/
namespace Go.Proofs.Ytbfeaikiiamhaaa
open Go.Ab
section
variable {H : List AO} {x y : SV} {l d : List Int}
theorem loop29_0 (hy : IsI H y d) (hx : IsI H x l) (hdl : d.length = l.length) (hl : l.length ≤ 100) {s : Int} {N : Nat} {K : XE → Env → List AO → Prop}
    (hret : dgR d l ≠ 0 → ∀ env, env.get 6 = i64 0 → env.get 7 = i64 2 → K .ret env H) (hexit : dgR d l = 0 → ∀ env, env.get 0 = y → env.get 1 = x → env.get 2 = i64 s → K (.exit 0) env H) :
    ∀ (n i : Nat) (env : Env), i + n = l.length → dgR d l = dgR (d.drop i) (l.drop i) → env.get 0 = y → env.get 1 = x → env.get 2 = i64 s → env.get 9 = i64 i →
      LI Try.prog N drawB l29_0 env H K := by
  intro n
  induction n with
  | zero =>
    intro i env hi hp h0 h1 h2 h9
    refine li_go hm l29_0.eq_1 ?_
    have e : i = l.length := by omega
    subst e
    simp -implicitDefEqProofs [h0, h1, h2, h9, hx.vd, hx.ug, hx.sl, hx.len]
    refine hexit (by rw [hp]; simp [← hdl, dgR]) _ ?_ ?_ ?_ <;> simp [h0, h1, h2]
  | succ n ih =>
    intro i env hi hp h0 h1 h2 h9
    refine li_go hm l29_0.eq_1 ?_
    have hlt : i < l.length := by omega
    have hlt' : i < d.length := by omega
    rw [dgR_drop hlt' hlt] at hp
    simp -implicitDefEqProofs [h0, h1, h2, h9, hlt, hlt', hx.vd, hx.ug, hx.sl, hx.len, hx.v hlt, hx.ok hlt, hy.vd, hy.ug, hy.sl, hy.len, hy.v hlt', hy.ok hlt', wrap_suc (show i < 9223372036854775807 by omega)]
    by_cases hc : d[i] < 0 ∨ l[i] ≤ d[i]
    · rw [if_pos hc] at hp
      simp -implicitDefEqProofs [hc]
      exact hret (by omega) _ (by simp) (by simp)
    · rw [if_neg hc] at hp
      simp -implicitDefEqProofs [hc]
      refine ih (i + 1) _ (by omega) hp ?_ ?_ ?_ ?_ <;> simp [h0, h1, h2]
theorem loop29_1 (hy : IsI H y d) (hx : IsI H x l) (hdl : d.length = l.length) (hl : l.length ≤ 100) (hr : ∀ x ∈ l, 1 ≤ x ∧ x ≤ 1000000000) (hd : dgR d l = 0) {o : Option Int} {N : Nat} {K : XE → Env → List AO → Prop}
    (hret : o = none → ∀ env, env.get 6 = i64 0 → env.get 7 = i64 5 → K .ret env H) (hexit : ∀ n, o = some n → ∀ env, env.get 2 = i64 n → K (.exit 2) env H) :
    ∀ (n : Nat) (s : Int) (env : Env), n ≤ l.length → 0 ≤ s → s ≤ 999999999999999 → o = jn d l n s → env.get 0 = y → env.get 1 = x → env.get 2 = i64 s → env.get 10 = i64 ((n : Int) - 1) →
      LI Try.prog N drawB l29_1 env H K := by
  intro n
  induction n with
  | zero =>
    intro s env hn h0s hs ho h0 h1 h2 h10
    refine li_go hm l29_1.eq_1 ?_
    simp -implicitDefEqProofs [h0, h1, h2, h10]
    exact hexit s ho _ (by simp [h2])
  | succ n ih =>
    intro s env hn h0s hs ho h0 h1 h2 h10
    refine li_go hm l29_1.eq_1 ?_
    have hlt : n < l.length := by omega
    have hlt' : n < d.length := by omega
    obtain ⟨b1, b2⟩ := dgR_at hd n hlt' hlt
    obtain ⟨r1, r2⟩ := hr _ (List.getElem_mem hlt)
    have e10 : env.get 10 = i64 (n : Int) := by rw [h10]; congr 1; omega
    have g1 : d.getD n 0 = d[n] := by simp [hlt']
    have g2 : l.getD n 0 = l[n] := by simp [hlt]
    unfold jn at ho
    rw [g1, g2] at ho
    have w1 : IntKind.i64.wrap (999999999999999 - d[n]) = 999999999999999 - d[n] := wrap_id (by omega) (by omega)
    have t2 : (999999999999999 - d[n]).tdiv l[n] = (999999999999999 - d[n]) / l[n] := Int.tdiv_eq_ediv_of_nonneg (by omega)
    have t3 : 0 ≤ (999999999999999 - d[n]) / l[n] := Int.ediv_nonneg (by omega) (by omega)
    have t4 : (999999999999999 - d[n]) / l[n] ≤ 999999999999999 - d[n] := Int.ediv_le_self _ (by omega)
    have w2 : IntKind.i64.wrap ((999999999999999 - d[n]) / l[n]) = (999999999999999 - d[n]) / l[n] := wrap_id (by omega) (by omega)
    simp -implicitDefEqProofs [h0, h1, h2, e10, hlt, hlt', hx.vd, hx.ug, hx.sl, hx.len, hx.v hlt, hx.ok hlt, hy.vd, hy.ug, hy.sl, hy.len, hy.v hlt', hy.ok hlt', w1, t2, w2]
    refine ⟨by omega, ?_⟩
    by_cases hc : (999999999999999 - d[n]) / l[n] < s
    · rw [if_pos hc] at ho
      rw [if_pos hc]
      exact hret ho _ (by simp) (by simp)
    · rw [if_neg hc] at ho
      rw [if_neg hc]
      have m1 : s * l[n] ≤ 999999999999999 - d[n] := (Int.le_ediv_iff_mul_le (by omega)).1 (by omega)
      have m2 : 0 ≤ s * l[n] := Int.mul_nonneg h0s (by omega)
      rw [wrap_id (n := s * l[n]) (by omega) (by omega), wrap_id (n := s * l[n] + d[n]) (by omega) (by omega), wrap_id (n := (n : Int) - 1) (by omega) (by omega)]
      refine ih (s * l[n] + d[n]) _ (by omega) (by omega) (by omega) ho ?_ ?_ ?_ ?_ <;> simp [h0, h1]
theorem ok29 (hy : IsI H y d) (hx : IsI H x l) (hl : l.length < 4611686018427387904) (s : Int) : Ok Try.prog 29 [y, x, i64 s] H (.ret (tup2 (joinP d l s))) H := by
  refine ok_fn hm Try.func29 c29 (by simp) fun hcl => ?_
  simp -implicitDefEqProofs [i29, r29, hx.vd, hx.ug]
  refine call_go (ok47 hx hl) ?_
  by_cases h : radE l = 0
  · obtain ⟨hl2, hr⟩ := radE_mem h
    by_cases hdl : d.length = l.length
    · simp -implicitDefEqProofs [h, hdl, hx.vd, hx.ug, hx.sl, hx.len, hy.vd, hy.ug, hy.sl, hy.len]
      refine loop29_0 hy hx hdl hl2 (s := s) (fun hr env k6 k7 => ?_) (fun hd env k0 k1 k2 => ?_) l.length 0 _ (by omega) (by simp) ?_ ?_ ?_ ?_
      · simp -implicitDefEqProofs [k6, k7, joinP, tup2, h, hdl, hr]
        exact cv_id
      · by_cases hs : s < 0 ∨ 1000000000000000 ≤ s
        · simp -implicitDefEqProofs [k0, k1, k2, joinP, tup2, h, hdl, hd, hs]
          exact cv_id
        · simp -implicitDefEqProofs [k0, k1, k2, hs, hx.vd, hx.ug, hx.sl, hx.len, hdl]
          rw [wrap_id (n := (l.length : Int) - 1) (by omega) (by omega)]
          refine loop29_1 hy hx hdl hl2 hr hd (o := jn d l l.length s) (fun ho env k6 k7 => ?_) (fun n ho env k2 => ?_) l.length s _ (by omega) (by omega) (by omega) rfl ?_ ?_ ?_ ?_
          · simp -implicitDefEqProofs [k6, k7, joinP, tup2, h, hdl, hd, hs, ho, jp]
            exact cv_id
          · simp -implicitDefEqProofs [k2, joinP, tup2, h, hdl, hd, hs, ho, jp]
            exact cv_id
          all_goals simp [k0, k1, k2]
      all_goals simp
    · simp -implicitDefEqProofs [h, hdl, hx.vd, hx.ug, hx.sl, hx.len, hy.vd, hy.ug, hy.sl, hy.len, show ¬ ((d.length : Int) = l.length) by omega, joinP, tup2]
      exact cv_id
  · simp -implicitDefEqProofs [h, joinP, tup2]
    exact cv_id
end
end Go.Proofs.Ytbfeaikiiamhaaa
/- H7 -/
namespace Go.Proofs.Ytbfeaikiiamhaaa
open Go.Ab
theorem splitV_eq (s : Int) (l : List Int) : ∃ (a : List Int) (b c : Int), splitV s l = .tup [sl a, i64 b, i64 c] ∧ a.length ≤ 100 := by
  unfold splitV
  by_cases h : radE l = 0
  · rw [if_neg (by omega)]
    split
    · exact ⟨[], 0, 2, rfl, by simp⟩
    · refine ⟨_, _, _, rfl, ?_⟩
      rw [digs_len]; exact (radE_mem h).1
  · rw [if_pos h]
    exact ⟨[], 0, _, rfl, by simp⟩
theorem IsI.sl (H : List AO) (l : List Int) : IsI H (sl l) l := IsI.slc H l
theorem awake_ok {H : List AO} : Ok Try.prog 11 [] H (.ret (bl true)) H := ok_lift ok11 rfl
theorem ok7 (s : Int) (l d : List Int) : Ok Try.prog 7 [i64 s, sl l, sl d] [] (.ret (bl true)) [] := by
  refine ok_fn hm Try.func7 c7 (by simp) fun hcl => ?_
  by_cases hlong : 110 < (l.length : Int) ∨ 110 < (d.length : Int)
  · simp -implicitDefEqProofs [i7, r7, sl, hlong]
    refine call_go awake_ok ?_
    simp -implicitDefEqProofs
    exact cv_id
  · simp -implicitDefEqProofs [i7, r7, sl, hlong]
    have hl : l.length < 4611686018427387904 := by omega
    have hd : d.length < 4611686018427387904 := by omega
    refine ⟨by omega, by omega, by omega, by omega, ?_⟩
    have hx : IsI [⟨ints l, 3, 1, true⟩, ⟨ints d, 3, 1, true⟩] (.own 0 0 l.length 1 1) l := IsI.whole (H := []) (L := [⟨ints l, 3, 1, true⟩, ⟨ints d, 3, 1, true⟩]) (k := 0) (T := 3) rfl rfl
    have hy : IsI [⟨ints l, 3, 1, true⟩, ⟨ints d, 3, 1, true⟩] (.own 1 0 d.length 1 1) d := IsI.whole (H := []) (L := [⟨ints l, 3, 1, true⟩, ⟨ints d, 3, 1, true⟩]) (k := 1) (T := 3) rfl rfl
    generalize hG : ([⟨ints l, 3, 1, true⟩, ⟨ints d, 3, 1, true⟩] : List AO) = G at hx hy ⊢
    have h1 := ok21 hx hl s
    have h2 := ok27 (IsI.slc G l) hl s
    have h3 := ok28 hy hx hl s
    have h4 := ok29 (IsI.slc G d) (IsI.slc G l) hl s
    obtain ⟨a, b, c, hv, ha⟩ := splitV_eq s l
    rw [hv] at h1 h2
    generalize joinP d l s = p at h3 h4
    obtain ⟨p1, p2⟩ := p
    simp only [tup2, sl] at h1 h2 h3 h4
    refine call_go h1 ?_
    simp -implicitDefEqProofs
    refine call_go h2 ?_
    simp -implicitDefEqProofs
    refine call_go h3 ?_
    simp -implicitDefEqProofs
    refine call_go h4 ?_
    simp -implicitDefEqProofs
    refine call_go (ok22s (IsI.slc G a) (IsI.slc G a) (by omega)) ?_
    simp -implicitDefEqProofs
    refine callq_st (r := bl true) (fun _ => by simp only [List.map_cons, List.map_nil, SV.strip]; exact ok22s hx (IsI.slc G l) hl) ?_
    simp -implicitDefEqProofs
    refine callq_st (r := bl true) (fun _ => by simp only [List.map_cons, List.map_nil, SV.strip]; exact ok22s hy (IsI.slc G d) hd) ?_
    simp -implicitDefEqProofs
    refine callq_go (fun _ => awake_ok) ?_
    simp -implicitDefEqProofs
    exact cv_fz (H := []) (L := G) 2 hcl rfl (by simp)
end Go.Proofs.Ytbfeaikiiamhaaa
