/-
  Steps of the proof: contracts of functions and plain facts that the statement rests on.
-/
import Derived.Test.YtbfeaikiiamhaaaSK
set_option linter.all false
/- H1 -/
namespace Go.Proofs.Ytbfeaikiiamhaaa
open Go.Ab
theorem hm : Try.prog.follows .mixedOrders = true := Try.checked.mixed
/-- The error of radices. -/
def radR : List Int → Int
  | [] => 0
  | x :: r => if x < 1 ∨ 1000000000 < x then 2 else radR r
def radE (l : List Int) : Int := if 100 < (l.length : Int) then 4 else radR l
theorem radR_mem : ∀ {l : List Int}, radR l = 0 → ∀ x ∈ l, 1 ≤ x ∧ x ≤ 1000000000
  | [], _, x, hx => by simp at hx
  | y :: r, h, x, hx => by
    unfold radR at h
    split at h
    · omega
    · rcases List.mem_cons.1 hx with rfl | hx
      · omega
      · exact radR_mem h x hx
theorem radE_mem {l : List Int} (h : radE l = 0) : l.length ≤ 100 ∧ ∀ x ∈ l, 1 ≤ x ∧ x ≤ 1000000000 := by
  unfold radE at h
  split at h
  · omega
  · exact ⟨by omega, radR_mem h⟩
theorem wrap_suc {i : Nat} (h : i < 9223372036854775807) : IntKind.i64.wrap ((i : Int) + 1) = ((i + 1 : Nat) : Int) := wrap_succ (by omega)
section
variable {H : List AO} {x y : SV} {l m : List Int}
theorem radR_drop {i : Nat} (h : i < l.length) : radR (l.drop i) = if l[i] < 1 ∨ 1000000000 < l[i] then 2 else radR (l.drop (i + 1)) := by
  rw [List.drop_eq_getElem_cons h]; rfl
theorem loop43 (hx : IsI H x l) (hl : l.length < 4611686018427387904) {N : Nat} {K : XE → Env → List AO → Prop}
    (hret : radR l = 2 → ∀ env, env.get 2 = i64 2 → K .ret env H) (hexit : radR l = 0 → ∀ env, K (.exit 0) env H) :
    ∀ (n i : Nat) (env : Env), i + n = l.length → radR l = radR (l.drop i) → env.get 8 = x → env.get 9 = i64 l.length → env.get 10 = i64 i →
      LI Try.prog N drawB l43_0 env H K := by
  intro n
  induction n with
  | zero =>
    intro i env hi hp h8 h9 h10
    refine li_go hm l43_0.eq_1 ?_
    have e : i = l.length := by omega
    subst e
    simp -implicitDefEqProofs [h8, h9, h10]
    exact hexit (by rw [hp]; simp [radR]) _
  | succ n ih =>
    intro i env hi hp h8 h9 h10
    refine li_go hm l43_0.eq_1 ?_
    have hlt : i < l.length := by omega
    rw [radR_drop hlt] at hp
    simp -implicitDefEqProofs [h8, h9, h10, hlt, hx.vd, hx.ug, hx.sl, hx.len, hx.v hlt, hx.ok hlt, wrap_suc (show i < 9223372036854775807 by omega)]
    by_cases hc : l[i] < 1 ∨ 1000000000 < l[i]
    · rw [if_pos hc] at hp
      rw [if_pos hc]
      exact hret hp _ (by simp)
    · rw [if_neg hc] at hp
      rw [if_neg hc]
      refine ih (i + 1) _ (by omega) hp ?_ ?_ ?_ <;> simp [h8, h9]
theorem ok43 (hx : IsI H x l) (hl : l.length < 4611686018427387904) : Ok Try.prog 43 [x] H (.ret (i64 (radE l))) H := by
  refine ok_fn hm Try.func43 c43 (by simp) fun hcl => ?_
  by_cases h : 100 < (l.length : Int)
  · simp -implicitDefEqProofs [i43, r43, hx.vd, hx.ug, hx.sl, hx.len, h, radE]
    exact cv_id
  · simp -implicitDefEqProofs [i43, r43, hx.vd, hx.ug, hx.sl, hx.len, h, radE]
    refine loop43 hx hl (fun hr env h2 => ?_) (fun hr env => ?_) l.length 0 _ (by omega) (by simp) (by simp) (by simp) (by simp)
    · simp -implicitDefEqProofs [h2, hr]
      exact cv_id
    · simp -implicitDefEqProofs [hr]
      exact cv_id
theorem loop47 (hx : IsI H x l) (hl : l.length < 4611686018427387904) {N : Nat} {K : XE → Env → List AO → Prop}
    (hret : radR l = 2 → ∀ env, env.get 2 = i64 2 → K .ret env H) (hexit : radR l = 0 → ∀ env, K (.exit 0) env H) :
    ∀ (n i : Nat) (env : Env), i + n = l.length → radR l = radR (l.drop i) → env.get 0 = x → env.get 3 = i64 i →
      LI Try.prog N drawB l47_0 env H K := by
  intro n
  induction n with
  | zero =>
    intro i env hi hp h0 h3
    refine li_go hm l47_0.eq_1 ?_
    have e : i = l.length := by omega
    subst e
    simp -implicitDefEqProofs [h0, h3, hx.vd, hx.ug, hx.sl, hx.len]
    exact hexit (by rw [hp]; simp [radR]) _
  | succ n ih =>
    intro i env hi hp h0 h3
    refine li_go hm l47_0.eq_1 ?_
    have hlt : i < l.length := by omega
    rw [radR_drop hlt] at hp
    simp -implicitDefEqProofs [h0, h3, hlt, hx.vd, hx.ug, hx.sl, hx.len, hx.v hlt, hx.ok hlt, wrap_suc (show i < 9223372036854775807 by omega)]
    by_cases hc : l[i] < 1 ∨ 1000000000 < l[i]
    · rw [if_pos hc] at hp
      rw [if_pos hc]
      exact hret hp _ (by simp)
    · rw [if_neg hc] at hp
      rw [if_neg hc]
      refine ih (i + 1) _ (by omega) hp ?_ ?_ <;> simp [h0]
theorem ok47 (hx : IsI H x l) (hl : l.length < 4611686018427387904) : Ok Try.prog 47 [x] H (.ret (i64 (radE l))) H := by
  refine ok_fn hm Try.func47 c47 (by simp) fun hcl => ?_
  by_cases h : 100 < (l.length : Int)
  · simp -implicitDefEqProofs [i47, r47, hx.vd, hx.ug, hx.sl, hx.len, h, radE]
    exact cv_id
  · simp -implicitDefEqProofs [i47, r47, hx.vd, hx.ug, hx.sl, hx.len, h, radE]
    refine loop47 hx hl (fun hr env h2 => ?_) (fun hr env => ?_) l.length 0 _ (by omega) (by simp) (by simp) (by simp)
    · simp -implicitDefEqProofs [h2, hr]
      exact cv_id
    · simp -implicitDefEqProofs [hr]
      exact cv_id
theorem loop22 (hx : IsI H x l) (hy : IsI H y m) (hl : l.length < 4611686018427387904) (hlm : l.length = m.length) {N : Nat} {K : XE → Env → List AO → Prop}
    (hret : l ≠ m → ∀ env, env.get 4 = bl false → K .ret env H) (hexit : l = m → ∀ env, K (.exit 0) env H) :
    ∀ (n i : Nat) (env : Env), i + n = l.length → (∀ k (h : k < l.length), k < i → l[k] = m[k]'(by omega)) → env.get 0 = x → env.get 1 = y → env.get 5 = i64 i →
      LI Try.prog N drawB l22_0 env H K := by
  intro n
  induction n with
  | zero =>
    intro i env hi hp h0 h1 h5
    refine li_go hm l22_0.eq_1 ?_
    have e : i = l.length := by omega
    subst e
    simp -implicitDefEqProofs [h0, h1, h5, hx.vd, hx.ug, hx.sl, hx.len]
    exact hexit (List.ext_getElem hlm fun k h1 h2 => hp k h1 h1) _
  | succ n ih =>
    intro i env hi hp h0 h1 h5
    refine li_go hm l22_0.eq_1 ?_
    have hlt : i < l.length := by omega
    have hlt' : i < m.length := by omega
    simp -implicitDefEqProofs [h0, h1, h5, hlt, hlt', hx.vd, hx.ug, hx.sl, hx.len, hx.v hlt, hx.ok hlt, hy.vd, hy.ug, hy.sl, hy.len, hy.v hlt', hy.ok hlt']
    by_cases hc : l[i] = m[i]
    · rw [if_pos hc]
      refine ih (i + 1) _ (by omega) ?_ ?_ ?_ ?_
      rotate_left
      · simp [h0]
      · simp [h1]
      · simp [wrap_suc (show i < 9223372036854775807 by omega)]
      intro k hk hki
      by_cases e : k = i
      · subst e; exact hc
      · exact hp k hk (by omega)
    · rw [if_neg hc]
      exact hret (fun e => hc (by subst e; rfl)) _ (by simp)
theorem ok22 (hx : IsI H x l) (hy : IsI H y m) (hl : l.length < 4611686018427387904) : Ok Try.prog 22 [x, y] H (.ret (bl (decide (l = m)))) H := by
  refine ok_fn hm Try.func22 c22 (by simp) fun hcl => ?_
  by_cases hlm : l.length = m.length
  · simp -implicitDefEqProofs [i22, r22, hx.vd, hx.ug, hx.sl, hx.len, hy.vd, hy.ug, hy.sl, hy.len, hlm]
    refine loop22 hx hy hl hlm (fun hne env h4 => ?_) (fun he env => ?_) l.length 0 _ (by omega) (by omega) (by simp) (by simp) (by simp)
    · simp -implicitDefEqProofs [h4, hne]
      exact cv_id
    · simp -implicitDefEqProofs [he]
      exact cv_id
  · simp -implicitDefEqProofs [i22, r22, hx.vd, hx.ug, hx.sl, hx.len, hy.vd, hy.ug, hy.sl, hy.len, show ¬ ((l.length : Int) = m.length) by omega, hlm]
    have : l ≠ m := fun e => hlm (by rw [e])
    simp [this]
    exact cv_id
theorem ok22s (hx : IsI H x l) (hy : IsI H y l) (hl : l.length < 4611686018427387904) : Ok Try.prog 22 [x, y] H (.ret (bl true)) H := by simpa using ok22 hx hy hl
end
end Go.Proofs.Ytbfeaikiiamhaaa
/- H2 -/
namespace Go.Proofs.Ytbfeaikiiamhaaa
open Go.Ab
def sl (l : List Int) : SV := .slc (ints l) l.length
def digs : Int → List Int → List Int
  | _, [] => []
  | s, r :: l => s % r :: digs (s / r) l
def rest : Int → List Int → Int
  | s, [] => s
  | s, r :: l => rest (s / r) l
def splitV (s : Int) (l : List Int) : SV := if radE l ≠ 0 then .tup [sl [], i64 0, i64 (radE l)] else if s < 0 ∨ 1000000000000000 ≤ s then .tup [sl [], i64 0, i64 2] else .tup [sl (digs s l), i64 (rest s l), i64 0]
theorem digs_len : ∀ (s : Int) (l : List Int), (digs s l).length = l.length
  | _, [] => rfl
  | s, r :: l => by simp [digs, digs_len]
theorem digs_snoc : ∀ (s : Int) (l : List Int) (r : Int), digs s (l ++ [r]) = digs s l ++ [rest s l % r]
  | _, [], _ => rfl
  | s, x :: l, r => by simp [digs, rest, digs_snoc]
theorem rest_snoc : ∀ (s : Int) (l : List Int) (r : Int), rest s (l ++ [r]) = rest s l / r
  | _, [], _ => rfl
  | s, x :: l, r => by simp [rest, rest_snoc]
theorem rest_rng : ∀ {l : List Int} {s : Int}, (∀ x ∈ l, 1 ≤ x ∧ x ≤ 1000000000) → 0 ≤ s → 0 ≤ rest s l ∧ rest s l ≤ s
  | [], s, _, h => ⟨h, Int.le_refl _⟩
  | r :: l, s, hx, h => by
    have hr := (hx r (by simp)).1
    have h1 : 0 ≤ s / r := Int.ediv_nonneg h (by omega)
    have h2 : s / r ≤ s := Int.ediv_le_self _ h
    have := rest_rng (l := l) (fun x hx' => hx x (by simp [hx'])) h1
    simp only [rest]; omega
section
variable {H : List AO} {x : SV} {l : List Int}
def rwO (l : List Int) : AO := ⟨ints l, 3, l.length, true⟩
theorem loop27 (hx : IsI H x l) (hl : l.length ≤ 100) (hr : ∀ x ∈ l, 1 ≤ x ∧ x ≤ 1000000000) {s : Int} (h0s : 0 ≤ s) (hs : s < 1000000000000000) {N : Nat} {K : XE → Env → List AO → Prop}
    (hexit : ∀ env L, env.get 0 = i64 (rest s l) → env.get 4 = .own H.length 0 l.length 1 l.length → K (.exit 0) env (H ++ rwO (digs s l) :: L)) :
    ∀ (n i : Nat) (env : Env) (L : List AO), i + n = l.length → env.get 0 = i64 (rest s (l.take i)) → env.get 1 = x → env.get 4 = .own H.length 0 i 1 i → env.get 8 = i64 i →
      LI Try.prog N drawB l27_0 env (H ++ rwO (digs s (l.take i)) :: L) K := by
  intro n
  induction n with
  | zero =>
    intro i env L hi h0 h1 h4 h8
    refine li_go hm l27_0.eq_1 ?_
    have e : i = l.length := by omega
    subst e
    rw [List.take_length] at h0 ⊢
    simp -implicitDefEqProofs [h0, h1, h4, h8, hx.vd, hx.ug, hx.sl, hx.len]
    refine hexit _ L ?_ ?_ <;> simp [h0, h4]
  | succ n ih =>
    intro i env L hi h0 h1 h4 h8
    refine li_go hm l27_0.eq_1 ?_
    have hlt : i < l.length := by omega
    have hb := hr _ (List.getElem_mem hlt)
    have hq := rest_rng (l := l.take i) (s := s) (fun x hx => hr x (List.mem_of_mem_take hx)) h0s
    have dl : (digs s (l.take i)).length = i := by rw [digs_len]; simp; omega
    have e1 := digs_snoc s (l.take i) l[i]
    have e2 := rest_snoc s (l.take i) l[i]
    rw [← List.take_succ_eq_append_getElem hlt] at e1 e2
    simp -implicitDefEqProofs [h0, h1, h4, h8, hlt, hx.vd, hx.ug, hx.sl, hx.len, hx.vA _ hlt, hx.okA _ hlt, wrap_suc (show i < 9223372036854775807 by omega), rwO, dl]
    have t1 : (rest s (l.take i)).tmod l[i] = rest s (l.take i) % l[i] := Int.tmod_eq_emod_of_nonneg hq.1
    have t2 : (rest s (l.take i)).tdiv l[i] = rest s (l.take i) / l[i] := Int.tdiv_eq_ediv_of_nonneg hq.1
    have t3 : 0 ≤ rest s (l.take i) / l[i] := Int.ediv_nonneg hq.1 (by omega)
    have t4 : rest s (l.take i) / l[i] ≤ rest s (l.take i) := Int.ediv_le_self _ hq.1
    rw [t1, t2, wrap_id (n := rest s (l.take i) / l[i]) (by omega) (by omega)]
    refine ⟨by omega, by omega, by omega, by omega, ?_⟩
    refine LI.cong (H' := H ++ rwO (digs s (l.take (i + 1))) :: (L ++ [⟨[i64 (rest s (l.take i) % l[i])], 3, 0, true⟩])) (by simp [rwO, e1, dl, ints]) (ih (i + 1) _ _ (by omega) ?_ ?_ ?_ ?_)
    all_goals simp [e2, h1]
theorem ok27 (hx : IsI H x l) (hl : l.length < 4611686018427387904) (s : Int) : Ok Try.prog 27 [i64 s, x] H (.ret (splitV s l)) H := by
  refine ok_fn hm Try.func27 c27 (by simp) fun hcl => ?_
  by_cases h : radE l = 0
  · obtain ⟨hl2, hr⟩ := radE_mem h
    simp -implicitDefEqProofs [i27, r27]
    refine call_go (ok47 (hx.app _) hl) ?_
    by_cases hs : s < 0 ∨ 1000000000000000 ≤ s
    · simp -implicitDefEqProofs [h, hs]
      refine cv_fz 4 hcl rfl ?_
      simp [splitV, h, hs, sl, ints]
    · simp -implicitDefEqProofs [h, hs]
      refine LI.cong (H' := H ++ rwO (digs s (l.take 0)) :: []) (by simp [rwO, digs, ints]) (loop27 hx hl2 hr (s := s) (by omega) (by omega) (fun env L k0 k4 => ?_) l.length 0 _ [] (by omega) ?_ ?_ ?_ ?_)
      · simp -implicitDefEqProofs [k0, k4]
        refine cv_fz 4 hcl rfl ?_
        have := digs_len s l
        simp [splitV, h, hs, sl, rwO, this, List.take_of_length_le]
      all_goals simp [rest]
  · simp -implicitDefEqProofs [i27, r27]
    refine call_go (ok47 (hx.app _) hl) ?_
    simp -implicitDefEqProofs [h]
    refine cv_fz 4 hcl rfl ?_
    simp [splitV, h, sl, ints]
end
end Go.Proofs.Ytbfeaikiiamhaaa
/- H3 -/
namespace Go.Proofs.Ytbfeaikiiamhaaa
open Go.Ab
theorem fz_fn {n : Nat} {ks : List Nat} {L : List AO} {d : Nat} (f : Fn) (a b : List SV) : SV.fz n ks L (d + 2) (.fn f a b) = .fn f (a.map (SV.fz n ks L (d + 1))) (b.map (SV.fz n ks L (d + 1))) := by
  conv => lhs; unfold SV.fz
  split
  · rename_i h
    rw [SV.under, Bool.and_eq_true] at h
    rw [map_fz_under _ _ _ _ h.1, map_fz_under _ _ _ _ h.2]
  · rfl
def bxP (c : SV) : SV := .ptr (.slc [c] 0) 0
section
variable {H : List AO} {x : SV} {l : List Int}
theorem ok44 (hx : IsI H x l) (s : Int) : Ok Try.prog 44 [i64 s, x] H (.ret (.fn (.func 58) [] [bxP (i64 s), bxP x])) H := by
  refine ok_fn hm Try.func44 c44 (by simp) fun hcl => ?_
  simp -implicitDefEqProofs [i44, r44, hx.vd, hx.ug, hx.sl, hx.len, hx.cell, hx.flat]
  refine cv_fz 4 hcl rfl ?_
  simp [bxP, fz_fn, fz_under hx.und]
/-- All digits are handed to yield. -/
theorem loop58 {J : Nat → List AO → Prop} {n : Nat} {s : Int} (hl : l.length ≤ 100) (hr : ∀ x ∈ l, 1 ≤ x ∧ x ≤ 1000000000) (h0s : 0 ≤ s) (hs : s < 1000000000000000)
    (hx : ∀ i H, J i H → IsI H x l)
    (hy : ∀ i (h : i < l.length) H, J i H → YlP Try.prog n [i64 (rest s (l.take i) % l[i]), i64 (rest s (l.take i) / l[i])] H fun o H' => o = .ret (bl true) ∧ J (i + 1) H') {N : Nat} {K : XE → Env → List AO → Prop}
    (hexit : ∀ env H, J l.length H → K (.exit 0) env H) :
    ∀ (k i : Nat) (env : Env) (H : List AO), i + k = l.length → J i H → env.get 0 = .yl n → env.get 4 = i64 (rest s (l.take i)) → env.get 9 = x → env.get 10 = i64 l.length → env.get 11 = i64 i →
      LI Try.prog N drawB l58_0 env H K := by
  intro k
  induction k with
  | zero =>
    intro i env H hi hJ h0 h4 h9 h10 h11
    refine li_go hm l58_0.eq_1 ?_
    have e : i = l.length := by omega
    subst e
    simp -implicitDefEqProofs [h0, h4, h9, h10, h11]
    exact hexit _ _ hJ
  | succ k ih =>
    intro i env H hi hJ h0 h4 h9 h10 h11
    refine li_go hm l58_0.eq_1 ?_
    have hlt : i < l.length := by omega
    have hb := hr _ (List.getElem_mem hlt)
    have hq := rest_rng (l := l.take i) (s := s) (fun x hx => hr x (List.mem_of_mem_take hx)) h0s
    have e2 := rest_snoc s (l.take i) l[i]
    rw [← List.take_succ_eq_append_getElem hlt] at e2
    have t1 : (rest s (l.take i)).tmod l[i] = rest s (l.take i) % l[i] := Int.tmod_eq_emod_of_nonneg hq.1
    have t2 : (rest s (l.take i)).tdiv l[i] = rest s (l.take i) / l[i] := Int.tdiv_eq_ediv_of_nonneg hq.1
    have t3 : 0 ≤ rest s (l.take i) / l[i] := Int.ediv_nonneg hq.1 (by omega)
    have t4 : rest s (l.take i) / l[i] ≤ rest s (l.take i) := Int.ediv_le_self _ hq.1
    have w := wrap_id (n := rest s (l.take i) / l[i]) (by omega) (by omega)
    have hxi := hx i H hJ
    simp -implicitDefEqProofs [h0, h4, h9, h10, h11, hlt, hxi.vd, hxi.ug, hxi.sl, hxi.len, hxi.v hlt, hxi.ok hlt, t1, t2, w, wrap_suc (show i < 9223372036854775807 by omega)]
    refine ⟨by omega, call_yl (hy i hlt H hJ) ?_⟩
    rintro o H' ⟨rfl, hJ'⟩
    simp -implicitDefEqProofs [h0, h4, h9, h10, h11, wrap_suc (show i < 9223372036854775807 by omega)]
    refine ih (i + 1) _ H' (by omega) hJ' ?_ ?_ ?_ ?_ ?_
    all_goals simp [e2, h0, h9, h10]
theorem ok58 {J : Nat → List AO → Prop} {n : Nat} {s : Int} (hl : l.length ≤ 100) (hr : ∀ x ∈ l, 1 ≤ x ∧ x ≤ 1000000000) (h0s : 0 ≤ s) (hs : s < 1000000000000000)
    (hx : ∀ i H, J i H → IsI H x l)
    (hy : ∀ i (h : i < l.length) H, J i H → YlP Try.prog n [i64 (rest s (l.take i) % l[i]), i64 (rest s (l.take i) / l[i])] H fun o H' => o = .ret (bl true) ∧ J (i + 1) H')
    (hJ : J 0 H) : OkP Try.prog 58 [.yl n, bxP (i64 s), bxP x] H fun o H' => (∃ v, o = .ret v) ∧ J l.length H' := by
  refine okP_fn hm Try.func58 c58 (by simp) fun hcl => ?_
  have hx0 := hx 0 H hJ
  simp -implicitDefEqProofs [i58, r58, bxP, hx0.vd, hx0.ug, hx0.sl, hx0.len, hx0.flat, hx0.cell]
  refine loop58 (J := J) hl hr h0s hs hx hy (fun env H' hJ' => ?_) l.length 0 _ H (by omega) hJ ?_ ?_ ?_ ?_ ?_
  · simp -implicitDefEqProofs
    exact ⟨_, _, ⟨⟨_, rfl⟩, hJ'⟩, cv_id⟩
  all_goals simp [rest]
end
end Go.Proofs.Ytbfeaikiiamhaaa
/- H4 -/
namespace Go.Ab
theorem OkP.tell {P : Program} {f : FuncId} {args : List SV} {H H' : List AO} {Pt : Out → List AO → Prop} (ht : Tell [] H [] H') (hl : H.length ≤ H'.length) (h : OkP P f args H' Pt) : OkP P f args H Pt := by
  refine ⟨h.1, ?_⟩
  intro S vs hH hS hvs
  obtain ⟨ρ', h1, h2, _⟩ := ht S #[] hH hS ⟨fun t => .any _⟩
  have h3 := h.2 ⟨ρ', H', S.w⟩ vs rfl h2 (hvs.ext h1)
  refine h3.mono ?_
  rintro en w' ⟨out, H2, v, ρ2, hp, hext, hsim, hout⟩
  exact ⟨out, H2, v, ρ2, hp, h1.trans (hext.mono (by subst hH; exact hl)), hsim, hout⟩
theorem yl_go {P : Program} {N : Nat} (hm : P.follows .mixedOrders = true) {i kk : Nat} {ps : List Nat} {ia ib ia' ib' : IC} {env : Env} {args : List SV} {H : List AO} {Pt : Out → List AO → Prop} (hia : ia = ia') (hib : ib = ib')
    (ho : H[i]? = some (lpo P N drawB kk ps ia ib (env.vals N) .ready)) (he : (env.all fun p => decide (p.1 < N)) = true) (hp : (ps.all fun p => decide (p < N)) = true) (hl : args.length = ps.length)
    (hx : closed H → X P N drawB ia' (env.puts ps args) H fun x env1 H1 => x = .normal ∧ ∃ cs, H1[i]? = some (lpo P N drawB kk ps ia ib cs .ready) ∧ X P N drawB ib' env1 (H1.set i (lpo P N drawB kk ps ia ib cs .busy)) (FinR P N kk ps ia ib i H.length Pt)) :
    YlP P i args H Pt := by
  subst hia hib
  exact yl_ok hm ho he hp hl hx
theorem cv_idq {n0 : Nat} {v : SV} {H1 H' : List AO} (h : H1 = H') : Cv n0 v H1 v H' := by subst h; exact cv_id
theorem le_tup {l l' : List SV} (h : leL l l') : SV.le (.tup l) (.tup l') := by
  intro S v hv
  cases hv with
  | tup _ us hl hh => have := h.vrs ⟨hl, hh⟩; exact .tup _ _ this.1 this.2
end Go.Ab
namespace Go.Proofs.Ytbfeaikiiamhaaa
open Go.Ab
section
variable {H : List AO} {x : SV} {l : List Int}
def sH21 (H : List AO) (lo : AO) (s : Int) (l : List Int) (L : List AO) : List AO :=
  H ++ ⟨[.own (H.length + 3) 0 l.length 1 l.length], 35, 0, true⟩ :: ⟨[i64 (rest s l)], 3, 0, true⟩ :: lo :: rwO (digs s l) :: L
def e21 (H : List AO) (c : SV) : Env := [(4, .ptr (.own H.length 0 0 0 0) 0), (5, .ptr (.own (H.length + 1) 0 0 0 0) 0), (24, c)]
theorem round21 {c : SV} {s : Int} (hl : l.length ≤ 100) (hr : ∀ x ∈ l, 1 ≤ x ∧ x ≤ 1000000000) (h0s : 0 ≤ s) {i : Nat} (hi : i < l.length) (L : List AO) :
    YlP Try.prog (H.length + 2) [i64 (rest s (l.take i) % l[i]), i64 (rest s (l.take i) / l[i])] (sH21 H (lpo Try.prog 34 drawB 0 [25, 26] ya21_0 yb21_0 ((e21 H c).vals 34) .ready) s (l.take i) L) fun o H' =>
      o = .ret (bl true) ∧ ∃ L, H' = sH21 H (lpo Try.prog 34 drawB 0 [25, 26] ya21_0 yb21_0 ((e21 H c).vals 34) .ready) s (l.take (i + 1)) L := by
  have e1 := digs_snoc s (l.take i) l[i]
  have e2 := rest_snoc s (l.take i) l[i]
  rw [← List.take_succ_eq_append_getElem hi] at e1 e2
  have dl : (digs s (l.take i)).length = i := by rw [digs_len]; simp; omega
  have hil : min i l.length = i := by omega
  refine yl_go (N := 34) (env := e21 H c) hm ya21_0.eq_1 yb21_0.eq_1 (by simp [sH21]; rfl) (by simp [e21]) (by decide) rfl fun hcl => ?_
  generalize hlo : lpo Try.prog 34 drawB 0 [25, 26] ya21_0 yb21_0 ((e21 H c).vals 34) .ready = lo
  simp -implicitDefEqProofs [e21, sH21, rwO, dl, hil]
  refine ⟨_, hlo.symm, by omega, by omega, _, by simp; rfl, .ready, true, _, ⟨rfl, rfl⟩, ⟨rfl, L ++ [⟨[i64 (rest s (l.take i) % l[i])], 3, 0, true⟩], rfl⟩, cv_idq ?_⟩
  have em : min (i + 1) l.length = i + 1 := by omega
  simp [set_app, e1, e2, em, dl, hlo, ints]
theorem ok21 (hx : IsI H x l) (hl : l.length < 4611686018427387904) (s : Int) : Ok Try.prog 21 [i64 s, x] H (.ret (splitV s l)) H := by
  refine ok_fn hm Try.func21 c21 (by simp) fun hcl => ?_
  by_cases h : radE l = 0
  · obtain ⟨hl2, hr⟩ := radE_mem h
    simp -implicitDefEqProofs [i21, r21, hx.vd, hx.ug]
    refine call_go (ok43 (hx.app _) hl) ?_
    by_cases hs : s < 0 ∨ 1000000000000000 ≤ s
    · simp -implicitDefEqProofs [h, hs]
      refine ⟨rfl, Cv.le (cv_fz 4 hcl rfl rfl) ?_⟩
      simp [splitV, h, hs, sl, ints]
      exact le_tup (leL.cons le_nil (leL.cons (SV.le.refl _) (leL.cons (SV.le.refl _) leL.nil)))
    · simp -implicitDefEqProofs [h, hs, hx.vd, hx.ug]
      refine call_go (ok44 (hx.app _) s) ?_
      simp -implicitDefEqProofs [h, hs]
      refine rg_go (Pt := fun o H' => (∃ v, o = .ret v) ∧ ∃ L, H' = sH21 H (lpo Try.prog 34 drawB 0 [25, 26] ya21_0 yb21_0 ((e21 H (.fn (.func 58) [] [bxP (i64 s), bxP x])).vals 34) .ready) s l L) ?_ ?_
      · refine OkP.tell (Tell.own0 (j := H.length) (p := 0) (o := ⟨[.val (.slice none 0 0)], 35, 0, true⟩) (by simp) rfl rfl 3 1) (by simp) ?_
        refine OkP.cast (args' := [.yl (H.length + 2), bxP (i64 s), bxP x]) (H' := sH21 H (lpo Try.prog 34 drawB 0 [25, 26] ya21_0 yb21_0 ((e21 H (.fn (.func 58) [] [bxP (i64 s), bxP x])).vals 34) .ready) s [] []) (by simp) (by simp [sH21, e21, digs, rest, rwO, ints, set_app]) ?_
        refine (ok58 (J := fun i H' => ∃ L, H' = sH21 H (lpo Try.prog 34 drawB 0 [25, 26] ya21_0 yb21_0 ((e21 H (.fn (.func 58) [] [bxP (i64 s), bxP x])).vals 34) .ready) s (l.take i) L) (n := H.length + 2) (s := s) hl2 hr (by omega) (by omega) ?_ ?_ ⟨[], by simp⟩).mono ?_
        · rintro i H' ⟨L, rfl⟩
          exact hx.app _
        · rintro i hi H' ⟨L, rfl⟩
          exact round21 hl2 hr (by omega) hi L
        · rintro o H' ⟨hv, L, hH⟩
          rw [List.take_length] at hH
          exact ⟨hv, L, hH⟩
      · rintro out H' ⟨⟨v, rfl⟩, L, rfl⟩
        refine ⟨.ready, _, by simp [sH21]; rfl, ?_⟩
        simp -implicitDefEqProofs [sH21]
        refine cv_fz 4 hcl rfl ?_
        have := digs_len s l
        simp [splitV, h, hs, sl, rwO, this, List.take_of_length_le]
  · simp -implicitDefEqProofs [i21, r21, hx.vd, hx.ug]
    refine call_go (ok43 (hx.app _) hl) ?_
    simp -implicitDefEqProofs [h]
    refine ⟨rfl, Cv.le (cv_fz 4 hcl rfl rfl) ?_⟩
    simp [splitV, h, sl, ints]
    exact le_tup (leL.cons le_nil (leL.cons (SV.le.refl _) (leL.cons (SV.le.refl _) leL.nil)))
end
end Go.Proofs.Ytbfeaikiiamhaaa
/- H5 -/
namespace Go.Proofs.Ytbfeaikiiamhaaa
open Go.Ab
def dgR : List Int → List Int → Int
  | d :: ds, r :: l => if d < 0 ∨ r ≤ d then 2 else dgR ds l
  | _, _ => 0
def jn (d l : List Int) : Nat → Int → Option Int
  | 0, s => some s
  | k + 1, s => if (999999999999999 - d.getD k 0) / l.getD k 0 < s then none else jn d l k (s * l.getD k 0 + d.getD k 0)
def jp : Option Int → Int × Int
  | none => (0, 5)
  | some n => (n, 0)
def joinP (d l : List Int) (s : Int) : Int × Int :=
  if radE l ≠ 0 then (0, radE l) else if d.length ≠ l.length then (0, 10) else if dgR d l ≠ 0 then (0, 2) else if s < 0 ∨ 1000000000000000 ≤ s then (0, 2) else jp (jn d l l.length s)
def tup2 (p : Int × Int) : SV := .tup [i64 p.1, i64 p.2]
theorem dgR_drop {d l : List Int} {i : Nat} (hd : i < d.length) (hl : i < l.length) : dgR (d.drop i) (l.drop i) = if d[i] < 0 ∨ l[i] ≤ d[i] then 2 else dgR (d.drop (i + 1)) (l.drop (i + 1)) := by
  rw [List.drop_eq_getElem_cons hd, List.drop_eq_getElem_cons hl]; rfl
theorem dgR_at : ∀ {d l : List Int}, dgR d l = 0 → ∀ (i : Nat) (hd : i < d.length) (hl : i < l.length), 0 ≤ d[i] ∧ d[i] < l[i]
  | [], _, _, i, hd, _ => by simp at hd
  | _ :: _, [], _, i, _, hl => by simp at hl
  | a :: d, r :: l, h, i, hd, hl => by
    unfold dgR at h
    split at h
    · omega
    · cases i with
      | zero => simp; omega
      | succ i => simpa using dgR_at h i (by simpa using hd) (by simpa using hl)
section
variable {H : List AO} {x y : SV} {l d : List Int}
theorem loop28_0 (hy : IsI H y d) (hx : IsI H x l) (hdl : d.length = l.length) (hl : l.length ≤ 100) {s : Int} {N : Nat} {K : XE → Env → List AO → Prop}
    (hret : dgR d l ≠ 0 → ∀ env, env.get 6 = i64 0 → env.get 7 = i64 2 → K .ret env H) (hexit : dgR d l = 0 → ∀ env, env.get 0 = y → env.get 1 = x → env.get 2 = i64 s → K (.exit 0) env H) :
    ∀ (n i : Nat) (env : Env), i + n = l.length → dgR d l = dgR (d.drop i) (l.drop i) → env.get 0 = y → env.get 1 = x → env.get 2 = i64 s → env.get 23 = y → env.get 24 = i64 l.length → env.get 25 = i64 i →
      LI Try.prog N drawB l28_0 env H K := by
  intro n
  induction n with
  | zero =>
    intro i env hi hp h0 h1 h2 h23 h24 h25
    refine li_go hm l28_0.eq_1 ?_
    have e : i = l.length := by omega
    subst e
    simp -implicitDefEqProofs [h0, h1, h2, h23, h24, h25]
    refine hexit (by rw [hp]; simp [← hdl, dgR]) _ ?_ ?_ ?_ <;> simp [h0, h1, h2]
  | succ n ih =>
    intro i env hi hp h0 h1 h2 h23 h24 h25
    refine li_go hm l28_0.eq_1 ?_
    have hlt : i < l.length := by omega
    have hlt' : i < d.length := by omega
    rw [dgR_drop hlt' hlt] at hp
    simp -implicitDefEqProofs [h0, h1, h2, h23, h24, h25, hlt, hlt', hx.vd, hx.ug, hx.sl, hx.len, hx.v hlt, hx.ok hlt, hy.vd, hy.ug, hy.sl, hy.len, hy.v hlt', hy.ok hlt', wrap_suc (show i < 9223372036854775807 by omega)]
    by_cases hc : d[i] < 0 ∨ l[i] ≤ d[i]
    · rw [if_pos hc] at hp
      simp -implicitDefEqProofs [hc]
      exact hret (by omega) _ (by simp) (by simp)
    · rw [if_neg hc] at hp
      simp -implicitDefEqProofs [hc]
      refine ih (i + 1) _ (by omega) hp ?_ ?_ ?_ ?_ ?_ ?_ <;> simp [h0, h1, h2, h23, h24]
theorem loop28_1 (hy : IsI H y d) (hx : IsI H x l) (hdl : d.length = l.length) (hl : l.length ≤ 100) (hr : ∀ x ∈ l, 1 ≤ x ∧ x ≤ 1000000000) (hd : dgR d l = 0) {o : Option Int} {N : Nat} {K : XE → Env → List AO → Prop}
    (hret : o = none → ∀ env, env.get 6 = i64 0 → env.get 7 = i64 5 → K .ret env H) (hexit : ∀ n, o = some n → ∀ env, env.get 11 = i64 n → K (.exit 2) env H) :
    ∀ (n : Nat) (s : Int) (env : Env), n ≤ l.length → 0 ≤ s → s ≤ 999999999999999 → o = jn d l n s → env.get 0 = y → env.get 1 = x → env.get 11 = i64 s → env.get 12 = i64 ((n : Int) - 1) →
      LI Try.prog N drawB l28_1 env H K := by
  intro n
  induction n with
  | zero =>
    intro s env hn h0s hs ho h0 h1 h11 h12
    refine li_go hm l28_1.eq_1 ?_
    simp -implicitDefEqProofs [h0, h1, h11, h12]
    exact hexit s ho _ (by simp [h11])
  | succ n ih =>
    intro s env hn h0s hs ho h0 h1 h11 h12
    refine li_go hm l28_1.eq_1 ?_
    have hlt : n < l.length := by omega
    have hlt' : n < d.length := by omega
    obtain ⟨b1, b2⟩ := dgR_at hd n hlt' hlt
    obtain ⟨r1, r2⟩ := hr _ (List.getElem_mem hlt)
    have e12 : env.get 12 = i64 (n : Int) := by rw [h12]; congr 1; omega
    have g1 : d.getD n 0 = d[n] := by simp [hlt']
    have g2 : l.getD n 0 = l[n] := by simp [hlt]
    unfold jn at ho
    rw [g1, g2] at ho
    have w1 : IntKind.i64.wrap (999999999999999 - d[n]) = 999999999999999 - d[n] := wrap_id (by omega) (by omega)
    have t2 : (999999999999999 - d[n]).tdiv l[n] = (999999999999999 - d[n]) / l[n] := Int.tdiv_eq_ediv_of_nonneg (by omega)
    have t3 : 0 ≤ (999999999999999 - d[n]) / l[n] := Int.ediv_nonneg (by omega) (by omega)
    have t4 : (999999999999999 - d[n]) / l[n] ≤ 999999999999999 - d[n] := Int.ediv_le_self _ (by omega)
    have w2 : IntKind.i64.wrap ((999999999999999 - d[n]) / l[n]) = (999999999999999 - d[n]) / l[n] := wrap_id (by omega) (by omega)
    simp -implicitDefEqProofs [h0, h1, h11, e12, hlt, hlt', hx.vd, hx.ug, hx.sl, hx.len, hx.v hlt, hx.ok hlt, hy.vd, hy.ug, hy.sl, hy.len, hy.v hlt', hy.ok hlt', w1, t2, w2]
    refine ⟨by omega, ?_⟩
    by_cases hc : (999999999999999 - d[n]) / l[n] < s
    · rw [if_pos hc] at ho
      rw [if_pos hc]
      exact hret ho _ (by simp) (by simp)
    · rw [if_neg hc] at ho
      rw [if_neg hc]
      have m1 : s * l[n] ≤ 999999999999999 - d[n] := (Int.le_ediv_iff_mul_le (by omega)).1 (by omega)
      have m2 : 0 ≤ s * l[n] := Int.mul_nonneg h0s (by omega)
      rw [wrap_id (n := s * l[n]) (by omega) (by omega), wrap_id (n := s * l[n] + d[n]) (by omega) (by omega), wrap_id (n := (n : Int) - 1) (by omega) (by omega)]
      refine ih (s * l[n] + d[n]) _ (by omega) (by omega) (by omega) ho ?_ ?_ ?_ ?_ <;> simp [h0, h1]
theorem ok28 (hy : IsI H y d) (hx : IsI H x l) (hl : l.length < 4611686018427387904) (s : Int) : Ok Try.prog 28 [y, x, i64 s] H (.ret (tup2 (joinP d l s))) H := by
  refine ok_fn hm Try.func28 c28 (by simp) fun hcl => ?_
  simp -implicitDefEqProofs [i28, r28, hx.vd, hx.ug]
  refine call_go (ok43 hx hl) ?_
  by_cases h : radE l = 0
  · obtain ⟨hl2, hr⟩ := radE_mem h
    by_cases hdl : d.length = l.length
    · simp -implicitDefEqProofs [h, hdl, hx.vd, hx.ug, hx.sl, hx.len, hy.vd, hy.ug, hy.sl, hy.len]
      refine loop28_0 hy hx hdl hl2 (s := s) (fun hr env k6 k7 => ?_) (fun hd env k0 k1 k2 => ?_) l.length 0 _ (by omega) (by simp) ?_ ?_ ?_ ?_ ?_ ?_
      · simp -implicitDefEqProofs [k6, k7, joinP, tup2, h, hdl, hr]
        exact cv_id
      · by_cases hs : s < 0 ∨ 1000000000000000 ≤ s
        · simp -implicitDefEqProofs [k0, k1, k2, joinP, tup2, h, hdl, hd, hs]
          exact cv_id
        · simp -implicitDefEqProofs [k0, k1, k2, hs, hy.vd, hy.ug, hy.sl, hy.len, hdl]
          rw [wrap_id (n := (l.length : Int) - 1) (by omega) (by omega)]
          refine loop28_1 hy hx hdl hl2 hr hd (o := jn d l l.length s) (fun ho env k6 k7 => ?_) (fun n ho env k11 => ?_) l.length s _ (by omega) (by omega) (by omega) rfl ?_ ?_ ?_ ?_
          · simp -implicitDefEqProofs [k6, k7, joinP, tup2, h, hdl, hd, hs, ho, jp]
            exact cv_id
          · simp -implicitDefEqProofs [k11, joinP, tup2, h, hdl, hd, hs, ho, jp]
            exact cv_id
          all_goals simp [k0, k1]
      all_goals simp
    · simp -implicitDefEqProofs [h, hdl, hx.vd, hx.ug, hx.sl, hx.len, hy.vd, hy.ug, hy.sl, hy.len, show ¬ ((d.length : Int) = l.length) by omega, joinP, tup2]
      exact cv_id
  · simp -implicitDefEqProofs [h, joinP, tup2]
    exact cv_id
end
end Go.Proofs.Ytbfeaikiiamhaaa
/- H6 -/
namespace Go.Proofs.Ytbfeaikiiamhaaa
open Go.Ab
section
variable {H : List AO} {x y : SV} {l d : List Int}
theorem loop29_0 (hy : IsI H y d) (hx : IsI H x l) (hdl : d.length = l.length) (hl : l.length ≤ 100) {s : Int} {N : Nat} {K : XE → Env → List AO → Prop}
    (hret : dgR d l ≠ 0 → ∀ env, env.get 6 = i64 0 → env.get 7 = i64 2 → K .ret env H) (hexit : dgR d l = 0 → ∀ env, env.get 0 = y → env.get 1 = x → env.get 2 = i64 s → K (.exit 0) env H) :
    ∀ (n i : Nat) (env : Env), i + n = l.length → dgR d l = dgR (d.drop i) (l.drop i) → env.get 0 = y → env.get 1 = x → env.get 2 = i64 s → env.get 9 = i64 i →
      LI Try.prog N drawB l29_0 env H K := by
  intro n
  induction n with
  | zero =>
    intro i env hi hp h0 h1 h2 h9
    refine li_go hm l29_0.eq_1 ?_
    have e : i = l.length := by omega
    subst e
    simp -implicitDefEqProofs [h0, h1, h2, h9, hx.vd, hx.ug, hx.sl, hx.len]
    refine hexit (by rw [hp]; simp [← hdl, dgR]) _ ?_ ?_ ?_ <;> simp [h0, h1, h2]
  | succ n ih =>
    intro i env hi hp h0 h1 h2 h9
    refine li_go hm l29_0.eq_1 ?_
    have hlt : i < l.length := by omega
    have hlt' : i < d.length := by omega
    rw [dgR_drop hlt' hlt] at hp
    simp -implicitDefEqProofs [h0, h1, h2, h9, hlt, hlt', hx.vd, hx.ug, hx.sl, hx.len, hx.v hlt, hx.ok hlt, hy.vd, hy.ug, hy.sl, hy.len, hy.v hlt', hy.ok hlt', wrap_suc (show i < 9223372036854775807 by omega)]
    by_cases hc : d[i] < 0 ∨ l[i] ≤ d[i]
    · rw [if_pos hc] at hp
      simp -implicitDefEqProofs [hc]
      exact hret (by omega) _ (by simp) (by simp)
    · rw [if_neg hc] at hp
      simp -implicitDefEqProofs [hc]
      refine ih (i + 1) _ (by omega) hp ?_ ?_ ?_ ?_ <;> simp [h0, h1, h2]
theorem loop29_1 (hy : IsI H y d) (hx : IsI H x l) (hdl : d.length = l.length) (hl : l.length ≤ 100) (hr : ∀ x ∈ l, 1 ≤ x ∧ x ≤ 1000000000) (hd : dgR d l = 0) {o : Option Int} {N : Nat} {K : XE → Env → List AO → Prop}
    (hret : o = none → ∀ env, env.get 6 = i64 0 → env.get 7 = i64 5 → K .ret env H) (hexit : ∀ n, o = some n → ∀ env, env.get 2 = i64 n → K (.exit 2) env H) :
    ∀ (n : Nat) (s : Int) (env : Env), n ≤ l.length → 0 ≤ s → s ≤ 999999999999999 → o = jn d l n s → env.get 0 = y → env.get 1 = x → env.get 2 = i64 s → env.get 10 = i64 ((n : Int) - 1) →
      LI Try.prog N drawB l29_1 env H K := by
  intro n
  induction n with
  | zero =>
    intro s env hn h0s hs ho h0 h1 h2 h10
    refine li_go hm l29_1.eq_1 ?_
    simp -implicitDefEqProofs [h0, h1, h2, h10]
    exact hexit s ho _ (by simp [h2])
  | succ n ih =>
    intro s env hn h0s hs ho h0 h1 h2 h10
    refine li_go hm l29_1.eq_1 ?_
    have hlt : n < l.length := by omega
    have hlt' : n < d.length := by omega
    obtain ⟨b1, b2⟩ := dgR_at hd n hlt' hlt
    obtain ⟨r1, r2⟩ := hr _ (List.getElem_mem hlt)
    have e10 : env.get 10 = i64 (n : Int) := by rw [h10]; congr 1; omega
    have g1 : d.getD n 0 = d[n] := by simp [hlt']
    have g2 : l.getD n 0 = l[n] := by simp [hlt]
    unfold jn at ho
    rw [g1, g2] at ho
    have w1 : IntKind.i64.wrap (999999999999999 - d[n]) = 999999999999999 - d[n] := wrap_id (by omega) (by omega)
    have t2 : (999999999999999 - d[n]).tdiv l[n] = (999999999999999 - d[n]) / l[n] := Int.tdiv_eq_ediv_of_nonneg (by omega)
    have t3 : 0 ≤ (999999999999999 - d[n]) / l[n] := Int.ediv_nonneg (by omega) (by omega)
    have t4 : (999999999999999 - d[n]) / l[n] ≤ 999999999999999 - d[n] := Int.ediv_le_self _ (by omega)
    have w2 : IntKind.i64.wrap ((999999999999999 - d[n]) / l[n]) = (999999999999999 - d[n]) / l[n] := wrap_id (by omega) (by omega)
    simp -implicitDefEqProofs [h0, h1, h2, e10, hlt, hlt', hx.vd, hx.ug, hx.sl, hx.len, hx.v hlt, hx.ok hlt, hy.vd, hy.ug, hy.sl, hy.len, hy.v hlt', hy.ok hlt', w1, t2, w2]
    refine ⟨by omega, ?_⟩
    by_cases hc : (999999999999999 - d[n]) / l[n] < s
    · rw [if_pos hc] at ho
      rw [if_pos hc]
      exact hret ho _ (by simp) (by simp)
    · rw [if_neg hc] at ho
      rw [if_neg hc]
      have m1 : s * l[n] ≤ 999999999999999 - d[n] := (Int.le_ediv_iff_mul_le (by omega)).1 (by omega)
      have m2 : 0 ≤ s * l[n] := Int.mul_nonneg h0s (by omega)
      rw [wrap_id (n := s * l[n]) (by omega) (by omega), wrap_id (n := s * l[n] + d[n]) (by omega) (by omega), wrap_id (n := (n : Int) - 1) (by omega) (by omega)]
      refine ih (s * l[n] + d[n]) _ (by omega) (by omega) (by omega) ho ?_ ?_ ?_ ?_ <;> simp [h0, h1]
theorem ok29 (hy : IsI H y d) (hx : IsI H x l) (hl : l.length < 4611686018427387904) (s : Int) : Ok Try.prog 29 [y, x, i64 s] H (.ret (tup2 (joinP d l s))) H := by
  refine ok_fn hm Try.func29 c29 (by simp) fun hcl => ?_
  simp -implicitDefEqProofs [i29, r29, hx.vd, hx.ug]
  refine call_go (ok47 hx hl) ?_
  by_cases h : radE l = 0
  · obtain ⟨hl2, hr⟩ := radE_mem h
    by_cases hdl : d.length = l.length
    · simp -implicitDefEqProofs [h, hdl, hx.vd, hx.ug, hx.sl, hx.len, hy.vd, hy.ug, hy.sl, hy.len]
      refine loop29_0 hy hx hdl hl2 (s := s) (fun hr env k6 k7 => ?_) (fun hd env k0 k1 k2 => ?_) l.length 0 _ (by omega) (by simp) ?_ ?_ ?_ ?_
      · simp -implicitDefEqProofs [k6, k7, joinP, tup2, h, hdl, hr]
        exact cv_id
      · by_cases hs : s < 0 ∨ 1000000000000000 ≤ s
        · simp -implicitDefEqProofs [k0, k1, k2, joinP, tup2, h, hdl, hd, hs]
          exact cv_id
        · simp -implicitDefEqProofs [k0, k1, k2, hs, hx.vd, hx.ug, hx.sl, hx.len, hdl]
          rw [wrap_id (n := (l.length : Int) - 1) (by omega) (by omega)]
          refine loop29_1 hy hx hdl hl2 hr hd (o := jn d l l.length s) (fun ho env k6 k7 => ?_) (fun n ho env k2 => ?_) l.length s _ (by omega) (by omega) (by omega) rfl ?_ ?_ ?_ ?_
          · simp -implicitDefEqProofs [k6, k7, joinP, tup2, h, hdl, hd, hs, ho, jp]
            exact cv_id
          · simp -implicitDefEqProofs [k2, joinP, tup2, h, hdl, hd, hs, ho, jp]
            exact cv_id
          all_goals simp [k0, k1, k2]
      all_goals simp
    · simp -implicitDefEqProofs [h, hdl, hx.vd, hx.ug, hx.sl, hx.len, hy.vd, hy.ug, hy.sl, hy.len, show ¬ ((d.length : Int) = l.length) by omega, joinP, tup2]
      exact cv_id
  · simp -implicitDefEqProofs [h, joinP, tup2]
    exact cv_id
end
end Go.Proofs.Ytbfeaikiiamhaaa
/- H7 -/
namespace Go.Proofs.Ytbfeaikiiamhaaa
open Go.Ab
theorem splitV_eq (s : Int) (l : List Int) : ∃ (a : List Int) (b c : Int), splitV s l = .tup [sl a, i64 b, i64 c] ∧ a.length ≤ 100 := by
  unfold splitV
  by_cases h : radE l = 0
  · rw [if_neg (by omega)]
    split
    · exact ⟨[], 0, 2, rfl, by simp⟩
    · refine ⟨_, _, _, rfl, ?_⟩
      rw [digs_len]; exact (radE_mem h).1
  · rw [if_pos h]
    exact ⟨[], 0, _, rfl, by simp⟩
theorem IsI.sl (H : List AO) (l : List Int) : IsI H (sl l) l := IsI.slc H l
theorem awake_ok {H : List AO} : Ok Try.prog 11 [] H (.ret (bl true)) H := ok_lift ok11 rfl
theorem ok7 (s : Int) (l d : List Int) : Ok Try.prog 7 [i64 s, sl l, sl d] [] (.ret (bl true)) [] := by
  refine ok_fn hm Try.func7 c7 (by simp) fun hcl => ?_
  by_cases hlong : 110 < (l.length : Int) ∨ 110 < (d.length : Int)
  · simp -implicitDefEqProofs [i7, r7, sl, hlong]
    refine call_go awake_ok ?_
    simp -implicitDefEqProofs
    exact cv_id
  · simp -implicitDefEqProofs [i7, r7, sl, hlong]
    have hl : l.length < 4611686018427387904 := by omega
    have hd : d.length < 4611686018427387904 := by omega
    refine ⟨by omega, by omega, by omega, by omega, ?_⟩
    have hx : IsI [⟨ints l, 3, 1, true⟩, ⟨ints d, 3, 1, true⟩] (.own 0 0 l.length 1 1) l := IsI.whole (H := []) (L := [⟨ints l, 3, 1, true⟩, ⟨ints d, 3, 1, true⟩]) (k := 0) (T := 3) rfl rfl
    have hy : IsI [⟨ints l, 3, 1, true⟩, ⟨ints d, 3, 1, true⟩] (.own 1 0 d.length 1 1) d := IsI.whole (H := []) (L := [⟨ints l, 3, 1, true⟩, ⟨ints d, 3, 1, true⟩]) (k := 1) (T := 3) rfl rfl
    generalize hG : ([⟨ints l, 3, 1, true⟩, ⟨ints d, 3, 1, true⟩] : List AO) = G at hx hy ⊢
    have h1 := ok21 hx hl s
    have h2 := ok27 (IsI.slc G l) hl s
    have h3 := ok28 hy hx hl s
    have h4 := ok29 (IsI.slc G d) (IsI.slc G l) hl s
    obtain ⟨a, b, c, hv, ha⟩ := splitV_eq s l
    rw [hv] at h1 h2
    generalize joinP d l s = p at h3 h4
    obtain ⟨p1, p2⟩ := p
    simp only [tup2, sl] at h1 h2 h3 h4
    refine call_go h1 ?_
    simp -implicitDefEqProofs
    refine call_go h2 ?_
    simp -implicitDefEqProofs
    refine call_go h3 ?_
    simp -implicitDefEqProofs
    refine call_go h4 ?_
    simp -implicitDefEqProofs
    refine call_go (ok22s (IsI.slc G a) (IsI.slc G a) (by omega)) ?_
    simp -implicitDefEqProofs
    refine callq_st (r := bl true) (fun _ => by simp only [List.map_cons, List.map_nil, SV.strip]; exact ok22s hx (IsI.slc G l) hl) ?_
    simp -implicitDefEqProofs
    refine callq_st (r := bl true) (fun _ => by simp only [List.map_cons, List.map_nil, SV.strip]; exact ok22s hy (IsI.slc G d) hd) ?_
    simp -implicitDefEqProofs
    refine callq_go (fun _ => awake_ok) ?_
    simp -implicitDefEqProofs
    exact cv_fz (H := []) (L := G) 2 hcl rfl (by simp)
end Go.Proofs.Ytbfeaikiiamhaaa
/- H8 -/
namespace Go.Proofs.Ytbfeaikiiamhaaa
open Go.Ab
/-- Cards in order, as far as they are laid. -/
def dk (i : Nat) : List Int := (List.range 17).map fun k => if k < i then (k : Int) else 0
def deck0 : List Int := dk 17
def swp (d : List Int) (i j : Nat) : List Int := (d.set i (d.getD j 0)).set j (d.getD i 0)
theorem dk_len (i : Nat) : (dk i).length = 17 := by simp [dk]
theorem dk_set {i : Nat} (h : i < 17) : (dk i).set i (i : Int) = dk (i + 1) := by
  apply List.ext_getElem (by simp [dk_len])
  intro k h1 h2
  simp only [dk, List.getElem_set, List.getElem_map, List.getElem_range]
  split
  · rename_i e; subst e; simp
  · rename_i e
    by_cases hk : k < i
    · rw [if_pos hk, if_pos (by omega)]
    · rw [if_neg hk, if_neg (by omega)]
theorem swp_len (d : List Int) (i j : Nat) : (swp d i j).length = d.length := by simp [swp]
section
variable {H : List AO}
theorem ints_setd {l : List Int} {k : Nat} (h : k < l.length) (v : Int) : (ints l).set k (i64 v) = ints (l.set k v) := by
  simp [ints, List.map_set]
theorem ints_sf {l : List Int} {k : Nat} (h : k < l.length) (v : Int) : (ints l).take k ++ i64 v :: (ints l).drop (k + 1) = ints (l.set k v) := by
  rw [← ints_setd h, List.set_eq_take_append_cons_drop, if_pos (by simpa using h)]
theorem loop45 {a : AO} {N : Nat} {K : XE → Env → List AO → Prop} (hexit : ∀ env, env.get 0 = .ptr (.own H.length 0 0 0 0) 0 → env.get 1 = .ptr (.own (H.length + 1) 0 0 0 0) 0 → K (.exit 0) env (H ++ [a, ⟨ints deck0, 86, 0, true⟩])) :
    ∀ (n i : Nat) (env : Env), i + n = 17 → env.get 0 = .ptr (.own H.length 0 0 0 0) 0 → env.get 1 = .ptr (.own (H.length + 1) 0 0 0 0) 0 → env.get 3 = i64 i → LI Try.prog N drawB l45_0 env (H ++ [a, ⟨ints (dk i), 86, 0, true⟩]) K := by
  intro n
  induction n with
  | zero =>
    intro i env hi h0 h1 h3
    refine li_go hm l45_0.eq_1 ?_
    have e : i = 17 := by omega
    subst e
    simp -implicitDefEqProofs [h0, h1, h3]
    exact hexit _ (by simp [h0]) (by simp [h1])
  | succ n ih =>
    intro i env hi h0 h1 h3
    refine li_go hm l45_0.eq_1 ?_
    have hlt : i < 17 := by omega
    have hlt' : (i : Int) < 17 := by omega
    have hl := dk_len i
    simp -implicitDefEqProofs [h0, h1, h3, hlt, hlt', hl, wrap_suc (show i < 9223372036854775807 by omega)]
    refine ⟨by omega, ?_⟩
    refine LI.cong (H' := H ++ [a, ⟨ints (dk (i + 1)), 86, 0, true⟩]) (by rw [← dk_set hlt, ← ints_sf (by omega)]) (ih (i + 1) _ (by omega) ?_ ?_ ?_)
    all_goals simp [h0, h1]
theorem ok45 : Ok Try.prog 45 [] H (.ret (.agg (ints deck0))) H := by
  refine ok_fn hm Try.func45 c45 (by simp) fun hcl => ?_
  simp -implicitDefEqProofs [i45, r45]
  refine LI.cong (H' := H ++ [⟨[i64 0, i64 0, i64 0, i64 0, i64 0, i64 0, i64 0, i64 0, i64 0, i64 0, i64 0, i64 0, i64 0, i64 0, i64 0, i64 0, i64 0], 86, 0, true⟩, ⟨ints (dk 0), 86, 0, true⟩]) (by rfl) (loop45 (fun env k0 k1 => ?_) 17 0 _ rfl ?_ ?_ ?_)
  · have hl : deck0.length = 17 := rfl
    simp -implicitDefEqProofs [k0, k1, hl]
    exact cv_fz 4 hcl rfl (by simp)
  all_goals simp
theorem ok46 {d : List Int} (hd : d.length = 17) {i j : Nat} (hi : i < 17) (hj : j < 17) : Ok Try.prog 46 [.agg (ints d), i64 i, i64 j] H (.ret (.agg (ints (swp d i j)))) H := by
  refine ok_fn hm Try.func46 c46 (by simp) fun hcl => ?_
  have e1 : ∀ v, (ints d).take i ++ i64 v :: (ints d).drop (i + 1) = ints (d.set i v) := ints_sf (by omega)
  have e2 : ∀ v w, (ints (d.set i v)).take j ++ i64 w :: (ints (d.set i v)).drop (j + 1) = ints ((d.set i v).set j w) := fun v => ints_sf (by simp; omega)
  have q : ∀ v w : Int, List.take 17 (ints ((d.set i v).set j w)) = ints ((d.set i v).set j w) := fun v w => List.take_of_length_le (by simp [hd])
  have gi : d.getD i 0 = d[i] := by simp [hd, hi]
  have gj : d.getD j 0 = d[j] := by simp [hd, hj]
  simp -implicitDefEqProofs [i46, r46, hd, hi, hj, e1, e2, q]
  refine ⟨by omega, by omega, by omega, by omega, by omega, by omega, by omega, by omega, ?_⟩
  refine cv_fz 4 hcl rfl ?_
  simp only [swp, gi, gj]
  simp
end
end Go.Proofs.Ytbfeaikiiamhaaa
/- H9 -/
namespace Go.Proofs.Ytbfeaikiiamhaaa
open Go.Ab
def rd (n i : Nat) : List Int := (List.range n).map fun k => if k < i then (n : Int) - k else 0
def rad (n : Nat) : List Int := rd n n
def cnt (n : Nat) : Nat → Int
  | 0 => 1
  | i + 1 => cnt n i * ((n : Int) - i)
def permF (d : List Int) (i : Nat) : List Int → List Int
  | [] => d
  | g :: gs => permF (swp d i (i + g.toNat)) (i + 1) gs
def prm (n : Nat) (s : Int) : List Int := (permF deck0 0 (digs s (rad n))).take n
def permV (n s : Int) : SV := if n < 0 ∨ 17 < n then .tup [sl [], i64 2] else if s < 0 ∨ cnt n.toNat n.toNat ≤ s then .tup [sl [], i64 2] else .tup [sl (prm n.toNat s), i64 0]
theorem rd_len (n i : Nat) : (rd n i).length = n := by simp [rd]
theorem rd_set {n i : Nat} (h : i < n) : (rd n i).set i ((n : Int) - i) = rd n (i + 1) := by
  apply List.ext_getElem (by simp [rd_len])
  intro k h1 h2
  simp only [rd, List.getElem_set, List.getElem_map, List.getElem_range]
  split
  · rename_i e; subst e; simp
  · by_cases hk : k < i
    · rw [if_pos hk, if_pos (by omega)]
    · rw [if_neg hk, if_neg (by omega)]
theorem rad_at {n i : Nat} (h : i < (rad n).length) : (rad n)[i] = (n : Int) - i := by
  have : i < n := by simpa [rad, rd] using h
  simp [rad, rd, this]
theorem rad_mem {n : Nat} {x : Int} (h : x ∈ rad n) : 1 ≤ x ∧ x ≤ n := by
  simp only [rad, rd, List.mem_map, List.mem_range] at h
  obtain ⟨k, hk, rfl⟩ := h
  rw [if_pos hk]; omega
theorem cnt_rng : ∀ n < 18, ∀ i < 18, i ≤ n → 1 ≤ cnt n i ∧ cnt n i ≤ 355687428096000 := by decide
theorem permF_snoc : ∀ (gs : List Int) (d : List Int) (i : Nat) (g : Int), permF d i (gs ++ [g]) = swp (permF d i gs) (i + gs.length) (i + gs.length + g.toNat)
  | [], d, i, g => rfl
  | x :: gs, d, i, g => by simp only [List.cons_append, permF, permF_snoc gs, List.length_cons]; congr 1 <;> omega
theorem permF_len : ∀ (gs : List Int) (d : List Int) (i : Nat), (permF d i gs).length = d.length
  | [], d, i => rfl
  | x :: gs, d, i => by simp only [permF, permF_len gs, swp_len]
section
variable {H : List AO}
theorem loop23 {n : Nat} (hn : n ≤ 17) {e1 : SV} {N : Nat} {K : XE → Env → List AO → Prop}
    (hexit : ∀ env, env.get 0 = i64 n → env.get 1 = e1 → env.get 6 = .own H.length 0 n 1 0 → env.get 7 = i64 (cnt n n) → K (.exit 0) env (H ++ [⟨ints (rad n), 3, 0, true⟩])) :
    ∀ (k i : Nat) (env : Env), i + k = n → env.get 0 = i64 n → env.get 1 = e1 → env.get 6 = .own H.length 0 n 1 0 → env.get 7 = i64 (cnt n i) → env.get 21 = i64 n → env.get 22 = i64 i → LI Try.prog N drawB l23_0 env (H ++ [⟨ints (rd n i), 3, 0, true⟩]) K := by
  intro k
  induction k with
  | zero =>
    intro i env hi h0 h1 h6 h7 h21 h22
    refine li_go hm l23_0.eq_1 ?_
    have e : i = n := by omega
    subst e
    simp -implicitDefEqProofs [h0, h1, h6, h7, h21, h22]
    refine hexit _ ?_ ?_ ?_ ?_ <;> simp [h0, h1, h6, h7]
  | succ k ih =>
    intro i env hi h0 h1 h6 h7 h21 h22
    refine li_go hm l23_0.eq_1 ?_
    have hlt : i < n := by omega
    have hlt' : (i : Int) < n := by omega
    have hl := rd_len n i
    have hc := cnt_rng n (by omega) i (by omega) (by omega)
    have hc2 := cnt_rng n (by omega) (i + 1) (by omega) (by omega)
    have w2 : IntKind.i64.wrap ((n : Int) - i) = (n : Int) - i := wrap_id (by omega) (by omega)
    have w3 : IntKind.i64.wrap (cnt n i * ((n : Int) - i)) = cnt n (i + 1) := wrap_id (by show -_ ≤ cnt n (i + 1); omega) (by show cnt n (i + 1) ≤ _; omega)
    simp -implicitDefEqProofs [h0, h1, h6, h7, h21, h22, hlt, hlt', hl, w2, w3, wrap_suc (show i < 9223372036854775807 by omega)]
    refine ⟨by omega, ?_⟩
    refine LI.cong (H' := H ++ [⟨ints (rd n (i + 1)), 3, 0, true⟩]) (by rw [← rd_set hlt, ← ints_sf (by omega)]) (ih (i + 1) _ (by omega) ?_ ?_ ?_ ?_ ?_ ?_)
    all_goals simp [h0, h1, h6, h21]
def e23 (H : List AO) (m : Nat) (s : Int) : Env := [(0, i64 m), (9, .ptr (.own (H.length + 1) 0 0 0 0) 0), (10, .ptr (.own (H.length + 2) 0 0 0 0) 0), (47, .fn (.func 58) [] [bxP (i64 s), bxP (.own H.length 0 m 1 0)])]
def lo23 (H : List AO) (m : Nat) (s : Int) : AO := lpo Try.prog 61 drawB 1 [48, 49] ya23_0 yb23_0 ((e23 H m s).vals 61) .ready
def sH23 (H : List AO) (m : Nat) (s : Int) (d : List Int) (i : Nat) (lo : AO) : List AO :=
  H ++ [⟨ints (rad m), 3, 0, true⟩, ⟨ints d, 86, 0, true⟩, ⟨[i64 i], 3, 0, true⟩, lo]
theorem round23 {m : Nat} {s : Int} (hm17 : m ≤ 17) (h0s : 0 ≤ s) {i : Nat} (hi : i < (rad m).length) :
    YlP Try.prog (H.length + 3) [i64 (rest s ((rad m).take i) % (rad m)[i]), i64 (rest s ((rad m).take i) / (rad m)[i])] (sH23 H m s (permF deck0 0 (digs s ((rad m).take i))) i (lo23 H m s)) fun o H' =>
      o = .ret (bl true) ∧ H' = sH23 H m s (permF deck0 0 (digs s ((rad m).take (i + 1)))) (i + 1) (lo23 H m s) := by
  have e1 := digs_snoc s ((rad m).take i) (rad m)[i]
  rw [← List.take_succ_eq_append_getElem hi] at e1
  have hl : (rad m).length = m := rd_len m m
  have dl : (digs s ((rad m).take i)).length = i := by rw [digs_len]; simp; omega
  rw [rad_at hi] at e1 ⊢
  have g1 : 0 ≤ rest s ((rad m).take i) % ((m : Int) - i) := Int.emod_nonneg _ (by omega)
  have g2 : rest s ((rad m).take i) % ((m : Int) - i) < (m : Int) - i := Int.emod_lt_of_pos _ (by omega)
  obtain ⟨g, hg⟩ : ∃ g : Nat, rest s ((rad m).take i) % ((m : Int) - i) = g := ⟨(rest s ((rad m).take i) % ((m : Int) - i)).toNat, by omega⟩
  rw [hg] at e1 g2 ⊢
  rw [e1, permF_snoc, dl]
  have hd : (permF deck0 0 (digs s ((rad m).take i))).length = 17 := by rw [permF_len]; rfl
  generalize permF deck0 0 (digs s ((rad m).take i)) = d at hd ⊢
  refine yl_go (N := 61) (env := e23 H m s) hm ya23_0.eq_1 yb23_0.eq_1 (by simp [sH23]; rfl) (by simp [e23]) (by decide) rfl fun hcl => ?_
  have w1 : IntKind.i64.wrap ((i : Int) + g) = ((i + g : Nat) : Int) := wrap_id (by omega) (by omega)
  generalize hlo : lo23 H m s = lo
  simp -implicitDefEqProofs [e23, sH23, hd, w1]
  have w2 : ((i + g : Nat) : Int) = (i : Int) + g := by omega
  rw [w2] at w1
  have o46 := fun H => ok46 (H := H) hd (i := i) (j := i + g) (by omega) (by omega)
  rw [w2] at o46
  refine ⟨_, hlo.symm, ?_⟩
  refine call_go (o46 _) ?_
  have hs1 := swp_len d i (i + g)
  rw [hd] at hs1
  simp -implicitDefEqProofs [hs1, hd]
  have w3 : IntKind.i64.wrap ((i : Int) + 1) = ((i + 1 : Nat) : Int) := wrap_suc (by omega)
  rw [w3]
  have hdr : List.drop 17 (ints d) = [] := List.drop_of_length_le (by simp [hd])
  rw [hdr]
  refine ⟨_, by simp; rfl, .ready, true, _, ⟨rfl, rfl⟩, ⟨rfl, rfl⟩, cv_idq ?_⟩
  simp [sH23, set_app, ← hlo, lo23]
theorem ok23 (n s : Int) : Ok Try.prog 23 [i64 n, i64 s] H (.ret (permV n s)) H := by
  refine ok_fn hm Try.func23 c23 (by simp) fun hcl => ?_
  by_cases hn : n < 0 ∨ 17 < n
  · simp -implicitDefEqProofs [i23, r23, hn, permV]
    exact Cv.le cv_id (le_tup (leL.cons le_nil (leL.cons (SV.le.refl _) leL.nil)))
  · obtain ⟨m, rfl⟩ : ∃ m : Nat, n = m := ⟨n.toNat, by omega⟩
    have hm17 : m ≤ 17 := by omega
    simp -implicitDefEqProofs [i23, r23, hn]
    refine ⟨by omega, by omega, ?_⟩
    have hz : List.replicate m (i64 0) = ints (rd m 0) := by
      apply List.ext_getElem (by simp [rd])
      intro k h1 h2
      simp [rd, ints]
    have hl := rd_len m m
    have hc := cnt_rng m (by omega) m (by omega) (Nat.le_refl _)
    refine LI.cong (H' := H ++ [⟨ints (rd m 0), 3, 0, true⟩]) (by rw [hz]) (loop23 hm17 (e1 := i64 s) (fun env k0 k1 k6 k7 => ?_) m 0 _ (by omega) ?_ ?_ ?_ ?_ ?_ ?_)
    · by_cases hs : s < 0 ∨ cnt m m ≤ s
      · simp -implicitDefEqProofs [k0, k1, k6, k7, hs]
        refine Cv.le (cv_fz 4 hcl rfl rfl) ?_
        simp [permV, hn, hs, sl, ints]
        exact le_tup (leL.cons le_nil (leL.cons (SV.le.refl _) leL.nil))
      · simp -implicitDefEqProofs [k0, k1, k6, k7, hs]
        refine call_go ok45 ?_
        have hd : deck0.length = 17 := rfl
        simp -implicitDefEqProofs [k0, k1, k6, k7, hd]
        have hx : ∀ L, IsI (H ++ ⟨ints (rad m), 3, 0, true⟩ :: L) (.own H.length 0 m 1 0) (rad m) := fun L => IsI.whole (H := H) (L := ⟨ints (rad m), 3, 0, true⟩ :: L) (k := 0) (T := 3) rfl hl.symm
        refine call_go (ok44 (hx _) s) ?_
        simp -implicitDefEqProofs [k0, k1, k6, k7]
        refine rg_go (Pt := fun o H' => (∃ v, o = .ret v) ∧ H' = sH23 H m s (permF deck0 0 (digs s (rad m))) m (lo23 H m s)) ?_ ?_
        · refine OkP.cast (args' := [.yl (H.length + 3), bxP (i64 s), bxP (.own H.length 0 m 1 0)]) (H' := sH23 H m s (permF deck0 0 (digs s ((rad m).take 0))) 0 (lo23 H m s)) (by simp) (by simp [sH23, e23, lo23, digs, permF]) ?_
          refine (ok58 (J := fun i H' => H' = sH23 H m s (permF deck0 0 (digs s ((rad m).take i))) i (lo23 H m s)) (n := H.length + 3) (l := rad m) (s := s) (by rw [rad, hl]; omega) (fun x hx => by have := rad_mem hx; omega) (by omega) (by omega) ?_ ?_ rfl).mono ?_
          · rintro i H' rfl
            exact hx _
          · rintro i hi H' rfl
            exact round23 hm17 (by omega) hi
          · rintro o H' ⟨hv, hH⟩
            rw [List.take_length] at hH
            exact ⟨hv, by rw [hH]; rw [rad, hl]⟩
        · rintro out H' ⟨⟨v, rfl⟩, rfl⟩
          refine ⟨.ready, _, by simp [sH23, lo23]; rfl, ?_⟩
          have hd : (permF deck0 0 (digs s (rad m))).length = 17 := by rw [permF_len]; rfl
          simp -implicitDefEqProofs [sH23, hd, SV.cutA]
          have e : (ints (permF deck0 0 (digs s (rad m)))).take m = ints (prm m s) := by simp [prm, ints, List.map_take]
          have e2 : (prm m s).length = m := by simp [prm, hd]; omega
          rw [e]
          refine ⟨hm17, by simp, by omega, by omega, cv_fz 4 hcl rfl ?_⟩
          simp [permV, hn, hs, sl, e2, List.take_of_length_le]
    all_goals simp [cnt]
end
end Go.Proofs.Ytbfeaikiiamhaaa
/- H10 -/
namespace Go.Proofs.Ytbfeaikiiamhaaa
open Go.Ab
def rng (n : Nat) : List Int := (List.range n).map fun k : Nat => (k : Int)
def facI : Nat → Int
  | 0 => 1
  | k + 1 => facI k * ((k : Int) + 2)
theorem rng_len (n : Nat) : (rng n).length = n := by simp [rng]
theorem rng_snoc (n : Nat) : rng (n + 1) = rng n ++ [(n : Int)] := by simp [rng, List.range_succ]
theorem fac_rng : ∀ k < 17, 1 ≤ facI k ∧ facI k ≤ 355687428096000 := by decide
theorem fac_cnt : ∀ n < 18, cnt n n = facI (n - 1) := by decide
theorem swp_take {d : List Int} {n i j : Nat} (hi : i < n) (hj : j < n) : (swp d i j).take n = swp (d.take n) i j := by
  simp only [swp, List.take_set]
  congr 1
  · congr 1
    simp only [List.getD_eq_getElem?_getD, List.getElem?_take, if_pos hj]
  · simp only [List.getD_eq_getElem?_getD, List.getElem?_take, if_pos hi]
theorem deck_take {n : Nat} (h : n ≤ 17) : deck0.take n = rng n := by
  apply List.ext_getElem (by simp [deck0, dk, rng]; omega)
  intro k h1 h2
  have : k < 17 := by simp [rng] at h2; omega
  simp only [deck0, dk, rng, List.getElem_take, List.getElem_map, List.getElem_range]
  rw [if_pos this]
theorem dig_rng {n : Nat} {s : Int} {i : Nat} (hi : i < n) : 0 ≤ rest s ((rad n).take i) % ((n : Int) - i) ∧ rest s ((rad n).take i) % ((n : Int) - i) < (n : Int) - i :=
  ⟨Int.emod_nonneg _ (by omega), Int.emod_lt_of_pos _ (by omega)⟩
theorem digs_rad {n : Nat} {s : Int} {i : Nat} (hi : i < n) : digs s ((rad n).take (i + 1)) = digs s ((rad n).take i) ++ [rest s ((rad n).take i) % ((n : Int) - i)] := by
  have hl : i < (rad n).length := by simp [rad, rd_len, hi]
  rw [List.take_succ_eq_append_getElem hl, digs_snoc, rad_at]
theorem rest_rad {n : Nat} {s : Int} {i : Nat} (hi : i < n) : rest s ((rad n).take (i + 1)) = rest s ((rad n).take i) / ((n : Int) - i) := by
  have hl : i < (rad n).length := by simp [rad, rd_len, hi]
  rw [List.take_succ_eq_append_getElem hl, rest_snoc, rad_at]
theorem dig_len {n : Nat} {s : Int} {i : Nat} (hi : i ≤ n) : (digs s ((rad n).take i)).length = i := by rw [digs_len]; simp [rad, rd_len]; omega
theorem perm_take {n : Nat} {s : Int} (h : n ≤ 17) : ∀ i, i ≤ n → (permF deck0 0 (digs s ((rad n).take i))).take n = permF (rng n) 0 (digs s ((rad n).take i))
  | 0, _ => by simpa [digs, permF] using deck_take h
  | i + 1, hi => by
    have ih := perm_take (s := s) h i (by omega)
    have hd := dig_rng (n := n) (s := s) (i := i) (by omega)
    rw [digs_rad (by omega), permF_snoc, permF_snoc, dig_len (by omega), swp_take (by omega) (by omega), ih]
theorem prm_eq {n : Nat} {s : Int} (h : n ≤ 17) : prm n s = permF (rng n) 0 (digs s (rad n)) := by
  have := perm_take (s := s) h n (Nat.le_refl _)
  have e : (rad n).take n = rad n := List.take_of_length_le (by simp [rad, rd_len])
  rw [e] at this; exact this
section
variable {H : List AO}
theorem loop24_0 {n : Nat} (hn : n ≤ 17) {e1 : SV} {N : Nat} {K : XE → Env → List AO → Prop}
    (hexit : ∀ env, env.get 0 = i64 n → env.get 1 = e1 → env.get 6 = i64 (facI (n - 1)) → K (.exit 0) env H) :
    ∀ (k i : Nat) (env : Env), i + k = n - 1 → env.get 0 = i64 n → env.get 1 = e1 → env.get 6 = i64 (facI i) → env.get 7 = i64 ((i : Int) + 2) → LI Try.prog N drawB l24_0 env H K := by
  intro k
  induction k with
  | zero =>
    intro i env hi h0 h1 h6 h7
    refine li_go hm l24_0.eq_1 ?_
    have e : i = n - 1 := by omega
    subst e
    simp -implicitDefEqProofs [h0, h1, h6, h7, show ¬ (((n - 1 : Nat) : Int) + 2 ≤ n) by omega]
    refine hexit _ ?_ ?_ ?_ <;> simp [h0, h1, h6]
  | succ k ih =>
    intro i env hi h0 h1 h6 h7
    refine li_go hm l24_0.eq_1 ?_
    have hc2 := fac_rng (i + 1) (by omega)
    have w3 : IntKind.i64.wrap (facI i * ((i : Int) + 2)) = facI (i + 1) := wrap_id (by show -_ ≤ facI (i + 1); omega) (by show facI (i + 1) ≤ _; omega)
    simp -implicitDefEqProofs [h0, h1, h6, h7, show ((i : Int) + 2 ≤ n) by omega, w3]
    rw [wrap_id (n := (i : Int) + 2 + 1) (by omega) (by omega)]
    refine ih (i + 1) _ (by omega) ?_ ?_ ?_ ?_
    · simp [h0]
    · simp [h1]
    · simp
    · simp; congr 1
def rw1 (n : Nat) (l : List Int) : AO := ⟨ints l, 3, n, true⟩
theorem loop24_1 {n : Nat} (hn : n ≤ 17) {e1 : SV} {N : Nat} {K : XE → Env → List AO → Prop}
    (hexit : ∀ env L, env.get 0 = i64 n → env.get 1 = e1 → env.get 8 = .own H.length 0 n 1 n → K (.exit 2) env (H ++ rw1 n (rng n) :: L)) :
    ∀ (k i : Nat) (env : Env) (L : List AO), i + k = n → env.get 0 = i64 n → env.get 1 = e1 → env.get 8 = .own H.length 0 i 1 i → env.get 9 = i64 i → LI Try.prog N drawB l24_1 env (H ++ rw1 i (rng i) :: L) K := by
  intro k
  induction k with
  | zero =>
    intro i env L hi h0 h1 h8 h9
    refine li_go hm l24_1.eq_1 ?_
    have e : i = n := by omega
    subst e
    simp -implicitDefEqProofs [h0, h1, h8, h9]
    refine hexit _ L ?_ ?_ ?_ <;> simp [h0, h1, h8]
  | succ k ih =>
    intro i env L hi h0 h1 h8 h9
    refine li_go hm l24_1.eq_1 ?_
    have hlt : i < n := by omega
    simp -implicitDefEqProofs [h0, h1, h8, h9, hlt, rw1, rng_len, wrap_suc (show i < 9223372036854775807 by omega)]
    refine ⟨by omega, by omega, ?_⟩
    refine LI.cong (H' := H ++ rw1 (i + 1) (rng (i + 1)) :: (L ++ [⟨[i64 i], 3, 0, true⟩])) (by simp [rw1, rng_snoc, ints]) (ih (i + 1) _ _ (by omega) ?_ ?_ ?_ ?_)
    all_goals simp [h0, h1]
theorem loop24_2 {n : Nat} (hn : n ≤ 17) {s : Int} (h0s : 0 ≤ s) (hs : s ≤ 355687428096000) {N : Nat} {L : List AO} {K : XE → Env → List AO → Prop}
    (hexit : ∀ env, env.get 8 = .own H.length 0 n 1 n → K (.exit 4) env (H ++ rw1 n (permF (rng n) 0 (digs s (rad n))) :: L)) :
    ∀ (k i : Nat) (env : Env), i + k = n → env.get 0 = i64 n → env.get 1 = i64 (rest s ((rad n).take i)) → env.get 8 = .own H.length 0 n 1 n → env.get 10 = i64 i →
      LI Try.prog N drawB l24_2 env (H ++ rw1 n (permF (rng n) 0 (digs s ((rad n).take i))) :: L) K := by
  intro k
  induction k with
  | zero =>
    intro i env hi h0 h1 h8 h10
    refine li_go hm l24_2.eq_1 ?_
    have e : i = n := by omega
    subst e
    have e : (rad i).take i = rad i := List.take_of_length_le (by simp [rad, rd_len])
    rw [e] at h1 ⊢
    simp -implicitDefEqProofs [h0, h1, h8, h10]
    refine hexit _ ?_; simp [h8]
  | succ k ih =>
    intro i env hi h0 h1 h8 h10
    refine li_go hm l24_2.eq_1 ?_
    have hlt : i < n := by omega
    have hd := dig_rng (n := n) (s := s) (i := i) hlt
    have hq := rest_rng (l := (rad n).take i) (s := s) (fun x hx => by have := rad_mem (List.mem_of_mem_take hx); omega) h0s
    have hstep := ih (i + 1)
    rw [digs_rad hlt, permF_snoc, dig_len (by omega), Nat.zero_add, rest_rad hlt] at hstep
    have hpl : (permF (rng n) 0 (digs s ((rad n).take i))).length = n := by rw [permF_len, rng_len]
    generalize permF (rng n) 0 (digs s ((rad n).take i)) = d at hstep hpl ⊢
    generalize rest s ((rad n).take i) = r at hd hq hstep h1
    have w1 : IntKind.i64.wrap ((n : Int) - i) = (n : Int) - i := wrap_id (by omega) (by omega)
    have t1 : r.tmod ((n : Int) - i) = r % ((n : Int) - i) := Int.tmod_eq_emod_of_nonneg hq.1
    have t2 : r.tdiv ((n : Int) - i) = r / ((n : Int) - i) := Int.tdiv_eq_ediv_of_nonneg hq.1
    have t3 : 0 ≤ r / ((n : Int) - i) := Int.ediv_nonneg hq.1 (by omega)
    have t4 : r / ((n : Int) - i) ≤ r := Int.ediv_le_self _ hq.1
    have w2 : IntKind.i64.wrap (r / ((n : Int) - i)) = r / ((n : Int) - i) := wrap_id (by omega) (by omega)
    obtain ⟨g, hg⟩ : ∃ g : Nat, r % ((n : Int) - i) = g := ⟨(r % ((n : Int) - i)).toNat, by omega⟩
    rw [hg] at hd hstep t1
    obtain ⟨j, hj⟩ : ∃ j : Nat, i + g = j := ⟨_, rfl⟩
    have w3 : IntKind.i64.wrap ((i : Int) + g) = (j : Int) := by rw [wrap_id (by omega) (by omega)]; omega
    have hjn : j < n := by omega
    have c1 : ∀ v, (ints d).take i ++ i64 v :: (ints d).drop (i + 1) = ints (d.set i v) := ints_sf (by omega)
    have c2 : ∀ v w, (ints (d.set i v)).take j ++ i64 w :: (ints (d.set i v)).drop (j + 1) = ints ((d.set i v).set j w) := fun v => ints_sf (by simp; omega)
    simp -implicitDefEqProofs [h0, h1, h8, h10, hlt, rw1, hpl, w1, t1, t2, w2, w3, c1, c2, hjn, wrap_suc (show i < 9223372036854775807 by omega)]
    refine ⟨by omega, by omega, by omega, by omega, by omega, ?_⟩
    have e : swp d i (i + (g : Int).toNat) = (d.set i d[j]).set j d[i] := by
      have : i + (g : Int).toNat = j := by omega
      rw [this]; simp only [swp]
      rw [List.getD_eq_getElem?_getD, List.getElem?_eq_getElem (by omega), List.getD_eq_getElem?_getD, List.getElem?_eq_getElem (by omega)]; rfl
    rw [e] at hstep
    refine hstep _ (by omega) ?_ ?_ ?_ ?_
    all_goals simp [h0, h8]
theorem ok24 (n s : Int) : Ok Try.prog 24 [i64 n, i64 s] H (.ret (permV n s)) H := by
  refine ok_fn hm Try.func24 c24 (by simp) fun hcl => ?_
  by_cases hn : n < 0 ∨ 17 < n
  · simp -implicitDefEqProofs [i24, r24, hn, permV]
    exact Cv.le cv_id (le_tup (leL.cons le_nil (leL.cons (SV.le.refl _) leL.nil)))
  · obtain ⟨m, rfl⟩ : ∃ m : Nat, n = m := ⟨n.toNat, by omega⟩
    have hm17 : m ≤ 17 := by omega
    have hf := fac_cnt m (by omega)
    have hc := cnt_rng m (by omega) m (by omega) (Nat.le_refl _)
    simp -implicitDefEqProofs [i24, r24, hn]
    refine loop24_0 hm17 (e1 := i64 s) (fun env k0 k1 k6 => ?_) (m - 1) 0 _ (by omega) ?_ ?_ ?_ ?_
    · rw [← hf] at k6
      by_cases hs : s < 0 ∨ cnt m m ≤ s
      · simp -implicitDefEqProofs [k0, k1, k6, hs]
        refine Cv.le cv_id ?_
        simp [permV, hn, hs, sl, ints]
        exact le_tup (leL.cons le_nil (leL.cons (SV.le.refl _) leL.nil))
      · simp -implicitDefEqProofs [k0, k1, k6, hs]
        refine LI.cong (H' := H ++ rw1 0 (rng 0) :: []) (by simp [rw1, rng, ints]) (loop24_1 hm17 (e1 := i64 s) (fun env L k0 k1 k8 => ?_) m 0 _ [] (by omega) ?_ ?_ ?_ ?_)
        · simp -implicitDefEqProofs [k0, k1, k8]
          refine LI.cong (H' := H ++ rw1 m (permF (rng m) 0 (digs s ((rad m).take 0))) :: L) (by simp [digs, permF]) (loop24_2 hm17 (s := s) (L := L) (by omega) (by omega) (fun env k8 => ?_) m 0 _ (by omega) ?_ ?_ ?_ ?_)
          · simp -implicitDefEqProofs [k8]
            have e := prm_eq (s := s) hm17
            have e2 : (prm m s).length = m := by rw [e, permF_len, rng_len]
            rw [← e]
            refine cv_fz 4 hcl rfl ?_
            simp [permV, hn, hs, sl, e2, rw1, List.take_of_length_le]
          all_goals simp [k0, k1, k8, rest]
        all_goals simp [k0, k1]
    all_goals simp [facI]
end
end Go.Proofs.Ytbfeaikiiamhaaa
/- H11 -/
namespace Go.Proofs.Ytbfeaikiiamhaaa
open Go.Ab
/-- The seed of an order, by the search for each of its cards. -/
def rankF (n : Nat) : List Int → Nat → List Int → Int → Option Int
  | [], _, _, s => some s
  | x :: r, i, l, s => if i + (l.drop i).idxOf x = n then none else rankF n r (i + 1) (swp l i (i + (l.drop i).idxOf x)) (s + cnt n i * ((l.drop i).idxOf x : Nat))
def vld (n : Nat) (o : List Int) : Prop := (∀ x ∈ o, 0 ≤ x ∧ x < n) ∧ o.Nodup
structure RI (n : Nat) (o : List Int) (i : Nat) (l : List Int) : Prop where
  perm : l.Perm (rng n)
  tk : l.take i = o.take i
theorem RI.len {n : Nat} {o : List Int} {i : Nat} {l : List Int} (h : RI n o i l) : l.length = n := by rw [h.perm.length_eq, rng_len]
theorem RI.zero (n : Nat) (o : List Int) : RI n o 0 (rng n) := ⟨List.Perm.refl _, by simp⟩
theorem RI.found {n : Nat} {o : List Int} {i : Nat} {l : List Int} (h : RI n o i l) {x : Int} (hi : i ≤ n) : i + (l.drop i).idxOf x ≠ n ↔ x ∈ l.drop i := by
  have hl := h.len
  have hd : (l.drop i).length = n - i := by simp [hl]
  rw [← List.idxOf_lt_length_iff]
  have := List.idxOf_le_length (a := x) (l := l.drop i)
  omega
theorem swp_eq {l : List Int} {i k : Nat} (hi : i < l.length) (hk : k < l.length) : swp l i k = (l.set i l[k]).set k l[i] := by
  simp only [swp]
  rw [List.getD_eq_getElem?_getD, List.getElem?_eq_getElem hk, List.getD_eq_getElem?_getD, List.getElem?_eq_getElem hi]; rfl
theorem RI.step {n : Nat} {o : List Int} {i : Nat} {l : List Int} (h : RI n o i l) (hi : i < n) (ho : i < o.length) (hx : o[i] ∈ l.drop i) : RI n o (i + 1) (swp l i (i + (l.drop i).idxOf o[i])) := by
  have hl := h.len
  have hlt := List.idxOf_lt_length_iff.2 hx
  have hg := List.getElem_idxOf hlt
  generalize hk : (l.drop i).idxOf o[i] = k at hlt hg
  rw [List.getElem_drop] at hg
  have hkn : i + k < l.length := by simp at hlt; omega
  rw [swp_eq (by omega) hkn]
  refine ⟨(List.set_set_perm (by omega) hkn).trans h.perm, ?_⟩
  apply List.ext_getElem?
  intro j
  rw [List.getElem?_take, List.getElem?_take]
  by_cases hj : j < i + 1
  · rw [if_pos hj, if_pos hj]
    by_cases hji : j = i
    · subst hji
      rw [List.getElem?_eq_getElem ho]
      by_cases hk0 : k = 0
      · subst hk0
        simp only [Nat.add_zero] at hg ⊢
        rw [List.getElem?_set_self (by simp; omega), hg]
      · rw [List.getElem?_set_ne (by omega), List.getElem?_set_self (by omega), hg]
    · rw [List.getElem?_set_ne (by omega), List.getElem?_set_ne (by omega)]
      have := congrArg (·[j]?) h.tk
      simpa [List.getElem?_take, show j < i by omega] using this
  · rw [if_neg hj, if_neg hj]
theorem mem_rng {n : Nat} {x : Int} : x ∈ rng n ↔ 0 ≤ x ∧ x < n := by
  simp only [rng, List.mem_map, List.mem_range]
  constructor
  · rintro ⟨k, hk, rfl⟩; omega
  · rintro ⟨h1, h2⟩; exact ⟨x.toNat, by omega, by omega⟩
theorem rng_nodup (n : Nat) : (rng n).Nodup := by
  rw [rng, List.Nodup, List.pairwise_map]
  exact List.Pairwise.imp (fun h => by omega) (List.nodup_range)
theorem RI.mem {n : Nat} {o : List Int} {i : Nat} {l : List Int} (h : RI n o i l) (hv : vld n o) (ho : i < o.length) : o[i] ∈ l.drop i := by
  have h1 : o[i] ∈ l := h.perm.mem_iff.2 (mem_rng.2 (hv.1 _ (List.getElem_mem ho)))
  rw [← List.take_append_drop i l] at h1
  rcases List.mem_append.1 h1 with h2 | h2
  · rw [h.tk] at h2
    obtain ⟨j, hj, e⟩ := List.getElem_of_mem h2
    rw [List.getElem_take] at e
    have hj' : j < i := by simp at hj; omega
    have := (List.getElem_inj hv.2).1 e
    omega
  · exact h2
theorem RI.valid {n : Nat} {o l : List Int} (h : RI n o n l) (ho : o.length = n) : vld n o := by
  have hl := h.len
  have e : l = o := by have := h.tk; rwa [List.take_of_length_le (by omega), List.take_of_length_le (by omega)] at this
  subst e
  exact ⟨fun x hx => mem_rng.1 (h.perm.mem_iff.1 hx), h.perm.nodup_iff.2 (rng_nodup n)⟩
theorem rankF_valid {n : Nat} {o : List Int} (ho : o.length = n) : ∀ (k i : Nat) (l : List Int) (s : Int), i + k = n → RI n o i l → rankF n (o.drop i) i l s ≠ none → vld n o := by
  intro k
  induction k with
  | zero =>
    intro i l s hi h _
    have : i = n := by omega
    subst this
    exact h.valid ho
  | succ k ih =>
    intro i l s hi h hr
    have hlt : i < o.length := by omega
    rw [List.drop_eq_getElem_cons hlt] at hr
    unfold rankF at hr
    split at hr
    · exact absurd rfl hr
    · rename_i hne
      have hx := (h.found (by omega)).1 hne
      exact ih (i + 1) _ _ (by omega) (h.step (by omega) hlt hx) hr
theorem rankF_none {n : Nat} {o : List Int} (ho : o.length = n) (hv : ¬ vld n o) : rankF n o 0 (rng n) 0 = none := by
  have := rankF_valid ho n 0 (rng n) 0 (by omega) (RI.zero n o)
  rw [List.drop_zero] at this
  exact Classical.byContradiction fun h => hv (this h)
end Go.Proofs.Ytbfeaikiiamhaaa
/- H12 -/
namespace Go.Proofs.Ytbfeaikiiamhaaa
open Go.Ab
theorem idx_ne {l : List Int} {x : Int} {i k : Nat} (h : i + k < i + (l.drop i).idxOf x) (hk : i + k < l.length) : l[i + k] ≠ x := by
  have h1 : k < (l.drop i).findIdx (· == x) := by have : k < (l.drop i).idxOf x := by omega
                                                  exact this
  have := List.not_of_lt_findIdx h1
  simpa [List.getElem_drop] using this
theorem idx_at {l : List Int} {x : Int} {i : Nat} (h : i + (l.drop i).idxOf x < l.length) : l[i + (l.drop i).idxOf x] = x := by
  have h1 : (l.drop i).idxOf x < (l.drop i).length := by simp; omega
  have := List.getElem_idxOf h1
  rwa [List.getElem_drop] at this
section
variable {H : List AO} {x : SV} {o : List Int}
theorem loop26_0 {n : Nat} (hn : n ≤ 17) {e0 : SV} {N : Nat} {K : XE → Env → List AO → Prop}
    (hexit : ∀ env L, env.get 0 = e0 → env.get 4 = i64 n → env.get 5 = .own H.length 0 n 1 n → K (.exit 0) env (H ++ rw1 n (rng n) :: L)) :
    ∀ (k i : Nat) (env : Env) (L : List AO), i + k = n → env.get 0 = e0 → env.get 4 = i64 n → env.get 5 = .own H.length 0 i 1 i → env.get 6 = i64 i → LI Try.prog N drawB l26_0 env (H ++ rw1 i (rng i) :: L) K := by
  intro k
  induction k with
  | zero =>
    intro i env L hi h0 h4 h5 h6
    refine li_go hm l26_0.eq_1 ?_
    have e : i = n := by omega
    subst e
    simp -implicitDefEqProofs [h0, h4, h5, h6]
    refine hexit _ L ?_ ?_ ?_ <;> simp [h0, h4, h5]
  | succ k ih =>
    intro i env L hi h0 h4 h5 h6
    refine li_go hm l26_0.eq_1 ?_
    have hlt : i < n := by omega
    simp -implicitDefEqProofs [h0, h4, h5, h6, hlt, rw1, rng_len, wrap_suc (show i < 9223372036854775807 by omega)]
    refine ⟨by omega, by omega, ?_⟩
    refine LI.cong (H' := H ++ rw1 (i + 1) (rng (i + 1)) :: (L ++ [⟨[i64 i], 3, 0, true⟩])) (by simp [rw1, rng_snoc, ints]) (ih (i + 1) _ _ (by omega) ?_ ?_ ?_ ?_)
    all_goals simp [h0, h4]
theorem loop26_2 (hx : IsI H x o) {n : Nat} (hn : n ≤ 17) (ho : o.length = n) {l : List Int} (hl : l.length = n) {i : Nat} (hi : i < n) {L : List AO} {e7 e8 : SV} {N : Nat} {K : XE → Env → List AO → Prop}
    (hexit : ∀ env, env.get 0 = x → env.get 4 = i64 n → env.get 5 = .own H.length 0 n 1 n → env.get 7 = e7 → env.get 8 = e8 → env.get 9 = i64 i → env.get 10 = i64 ((i + (l.drop i).idxOf (o[i]'(by omega)) : Nat) : Int) → K (.exit 4) env (H ++ rw1 n l :: L)) :
    ∀ (m k : Nat) (env : Env), i + k + m = i + (l.drop i).idxOf (o[i]'(by omega)) → env.get 0 = x → env.get 4 = i64 n → env.get 5 = .own H.length 0 n 1 n → env.get 7 = e7 → env.get 8 = e8 → env.get 9 = i64 i → env.get 10 = i64 ((i + k : Nat) : Int) →
      LI Try.prog N drawB l26_2 env (H ++ rw1 n l :: L) K := by
  have hio : i < o.length := by omega
  have htl : (l.drop i).idxOf (o[i]'(by omega)) ≤ (l.drop i).length := List.idxOf_le_length
  have htl' : i + (l.drop i).idxOf (o[i]'(by omega)) ≤ n := by simp at htl; omega
  have hxA := hx.app (rw1 n l :: L)
  intro m
  induction m with
  | zero =>
    intro k env hm0 h0 h4 h5 h7 h8 h9 h10
    refine li_go hm l26_2.eq_1 ?_
    rw [hm0.symm.trans (Nat.add_zero _)] at hexit
    obtain ⟨j, hj⟩ : ∃ j : Nat, i + k = j := ⟨_, rfl⟩
    by_cases hjn : j < n
    · have hat := idx_at (l := l) (x := o[i]) (i := i) (by omega)
      have hat' : l[j]'(by omega) = o[i] := by rw [← hat]; congr 1; omega
      rw [hj] at h10 hexit
      simp -implicitDefEqProofs [h0, h4, h5, h7, h8, h9, h10, hjn, hl, rw1, hxA.vd, hxA.ug, hxA.sl, hxA.len, hx.vA _ hio, hx.okA _ hio, hat', hio]
      refine ⟨by omega, hexit _ ?_ ?_ ?_ ?_ ?_ ?_ ?_⟩ <;> simp [h0, h4, h5, h7, h8, h9, h10]
    · rw [hj] at h10 hexit
      simp -implicitDefEqProofs [h0, h4, h5, h7, h8, h9, h10, hjn, hl, rw1]
      refine hexit _ ?_ ?_ ?_ ?_ ?_ ?_ ?_ <;> simp [h0, h4, h5, h7, h8, h9, h10]
  | succ m ih =>
    intro k env hm0 h0 h4 h5 h7 h8 h9 h10
    refine li_go hm l26_2.eq_1 ?_
    have hne' := idx_ne (l := l) (x := o[i]) (i := i) (k := k) (by omega) (by omega)
    have hst := ih (k + 1)
    rw [show i + (k + 1) = i + k + 1 by omega] at hst
    obtain ⟨j, hj⟩ : ∃ j : Nat, i + k = j := ⟨_, rfl⟩
    have hjn : j < n := by omega
    have hne : l[j]'(by omega) ≠ o[i] := by intro e; apply hne'; rw [← e]; congr 1
    rw [hj] at h10 hst
    simp -implicitDefEqProofs [h0, h4, h5, h7, h8, h9, h10, hjn, hl, rw1, hxA.vd, hxA.ug, hxA.sl, hxA.len, hx.vA _ hio, hx.okA _ hio, hne, hio, wrap_suc (show j < 9223372036854775807 by omega)]
    refine ⟨by omega, hst _ (by omega) ?_ ?_ ?_ ?_ ?_ ?_ ?_⟩
    all_goals simp [h0, h4, h5, h7, h8, h9]
end
end Go.Proofs.Ytbfeaikiiamhaaa
/- H13 -/
namespace Go.Proofs.Ytbfeaikiiamhaaa
open Go.Ab
def jr : Option Int → Int × Int
  | none => (0, 3)
  | some s => (s, 0)
def rankP (o : List Int) : Int × Int := if 17 < (o.length : Int) then (0, 4) else jr (rankF o.length o 0 (rng o.length) 0)
theorem rank_step {n i q : Nat} {s : Int} (hn : n ≤ 17) (hi : i < n) (hq : i + q < n) (h0 : 0 ≤ s) (hs : s < cnt n i) :
    0 ≤ cnt n i * (q : Int) ∧ 0 ≤ s + cnt n i * (q : Int) ∧ s + cnt n i * (q : Int) < cnt n (i + 1) ∧ cnt n i * (q : Int) ≤ 355687428096000 ∧ cnt n i * ((n : Int) - i) = cnt n (i + 1) := by
  have hc := cnt_rng n (by omega) i (by omega) (by omega)
  have hc2 := cnt_rng n (by omega) (i + 1) (by omega) (by omega)
  have e : cnt n (i + 1) = cnt n i * ((n : Int) - i) := rfl
  have h1 : 0 ≤ cnt n i * (q : Int) := Int.mul_nonneg (by omega) (by omega)
  have h2 : cnt n i * (q : Int) ≤ cnt n i * ((n : Int) - i - 1) := Int.mul_le_mul_of_nonneg_left (by omega) (by omega)
  have h3 : cnt n i * ((n : Int) - i - 1) = cnt n i * ((n : Int) - i) - cnt n i := by rw [Int.mul_sub, Int.mul_one]
  omega
section
variable {H : List AO} {x : SV} {o : List Int}
theorem loop26_1 (hx : IsI H x o) {n : Nat} (hn : n ≤ 17) (ho : o.length = n) {r : Option Int} {L : List AO} {N : Nat} {K : XE → Env → List AO → Prop}
    (hret : r = none → ∀ env H', env.get 2 = i64 0 → env.get 3 = i64 3 → (∃ l, H' = H ++ rw1 n l :: L) → K .ret env H') (hexit : ∀ s, r = some s → ∀ env H', env.get 7 = i64 s → (∃ l, H' = H ++ rw1 n l :: L) → K (.exit 2) env H') :
    ∀ (k i : Nat) (l : List Int) (s : Int) (env : Env), i + k = n → RI n o i l → 0 ≤ s → s < cnt n i → r = rankF n (o.drop i) i l s → env.get 0 = x → env.get 4 = i64 n → env.get 5 = .own H.length 0 n 1 n → env.get 7 = i64 s → env.get 8 = i64 (cnt n i) → env.get 9 = i64 i →
      LI Try.prog N drawB l26_1 env (H ++ rw1 n l :: L) K := by
  intro k
  induction k with
  | zero =>
    intro i l s env hi hR h0s hs hr h0 h4 h5 h7 h8 h9
    refine li_go hm l26_1.eq_1 ?_
    have e : i = n := by omega
    subst e
    simp -implicitDefEqProofs [h0, h4, h5, h7, h8, h9]
    rw [List.drop_of_length_le (by omega)] at hr
    exact hexit s hr _ _ (by simp [h7]) ⟨l, rfl⟩
  | succ k ih =>
    intro i l s env hi hR h0s hs hr h0 h4 h5 h7 h8 h9
    refine li_go hm l26_1.eq_1 ?_
    have hlt : i < n := by omega
    have hlo : i < o.length := by omega
    have hl := hR.len
    rw [List.drop_eq_getElem_cons hlo] at hr
    unfold rankF at hr
    simp -implicitDefEqProofs [h0, h4, h5, h7, h8, h9, hlt]
    refine loop26_2 hx hn ho hl hlt (L := L) (e7 := i64 s) (e8 := i64 (cnt n i)) (fun env k0 k4 k5 k7 k8 k9 k10 => ?_) ((l.drop i).idxOf o[i]) 0 _ (by omega) ?_ ?_ ?_ ?_ ?_ ?_ ?_
    · have hfd := hR.found (x := o[i]) (by omega)
      have hst := hR.step hlt hlo
      generalize hq : (l.drop i).idxOf o[i] = q at hr k10 hfd hst
      have hqle : q ≤ (l.drop i).length := by rw [← hq]; exact List.idxOf_le_length
      have hqn : i + q ≤ n := by simp at hqle; omega
      by_cases hc : i + q = n
      · rw [if_pos hc] at hr
        rw [hc] at k10
        simp -implicitDefEqProofs [k0, k4, k5, k7, k8, k9, k10]
        exact hret hr _ _ (by simp) (by simp) ⟨l, rfl⟩
      · rw [if_neg hc] at hr
        obtain ⟨s1, s2, s3, s4, s5⟩ := rank_step (q := q) hn hlt (by omega) h0s hs
        have hstep := ih (i + 1) (swp l i (i + q)) (s + cnt n i * (q : Int))
        obtain ⟨j, hj⟩ : ∃ j : Nat, i + q = j := ⟨_, rfl⟩
        have hjn : j < n := by omega
        have hlen : (rw1 n l).cells.length = n := by simp [rw1, hl]
        have hq2 : (j : Int) - i = (q : Int) := by omega
        have w1 : IntKind.i64.wrap ((j : Int) - i) = (q : Int) := by rw [hq2]; exact wrap_id (by omega) (by omega)
        have w2 : IntKind.i64.wrap ((n : Int) - i) = (n : Int) - i := wrap_id (by omega) (by omega)
        have hc2 := cnt_rng n (by omega) (i + 1) (by omega) (by omega)
        have w3 : IntKind.i64.wrap (cnt n i * (q : Int)) = cnt n i * (q : Int) := wrap_id (by omega) (by omega)
        have w4 : IntKind.i64.wrap (s + cnt n i * (q : Int)) = s + cnt n i * (q : Int) := wrap_id (by omega) (by omega)
        have w5 : IntKind.i64.wrap (cnt n i * ((n : Int) - i)) = cnt n (i + 1) := by rw [s5]; exact wrap_id (by omega) (by omega)
        have c1 : ∀ v, (ints l).take i ++ i64 v :: (ints l).drop (i + 1) = ints (l.set i v) := ints_sf (by omega)
        have c2 : ∀ v w, (ints (l.set i v)).take j ++ i64 w :: (ints (l.set i v)).drop (j + 1) = ints ((l.set i v).set j w) := fun v => ints_sf (by simp; omega)
        rw [hj] at k10 hstep hr hst
        have hne : ¬ ((j : Int) = n) := by omega
        rw [swp_eq (by omega) (by omega)] at hstep hr hst
        simp -implicitDefEqProofs [k0, k4, k5, k7, k8, k9, k10, hne, hjn, hlt, rw1, hl, w1, w2, w3, w4, w5, c1, c2, wrap_suc (show i < 9223372036854775807 by omega)]
        refine ⟨by omega, by omega, by omega, by omega, hstep _ (by omega) (hst (hfd.1 hc)) s2 s3 hr ?_ ?_ ?_ ?_ ?_ ?_⟩
        all_goals simp [k0, k4, k5]
    all_goals simp [h0, h4, h5, h7, h8, h9]
theorem ok26 (hx : IsI H x o) : Ok Try.prog 26 [x] H (.ret (tup2 (rankP o))) H := by
  refine ok_fn hm Try.func26 c26 (by simp) fun hcl => ?_
  by_cases hlong : 17 < (o.length : Int)
  · simp -implicitDefEqProofs [i26, r26, hx.vd, hx.ug, hx.sl, hx.len, hlong, rankP, tup2]
    exact cv_id
  · simp -implicitDefEqProofs [i26, r26, hx.vd, hx.ug, hx.sl, hx.len, hlong]
    refine LI.cong (H' := H ++ rw1 0 (rng 0) :: []) (by simp [rw1, rng, ints]) (loop26_0 (n := o.length) (by omega) (e0 := x) (fun env L k0 k4 k5 => ?_) o.length 0 _ [] (by omega) ?_ ?_ ?_ ?_)
    · simp -implicitDefEqProofs [k0, k4, k5]
      refine loop26_1 hx (n := o.length) (by omega) rfl (L := L) (r := rankF o.length o 0 (rng o.length) 0) (fun hr env H' k2 k3 hH => ?_) (fun s hr env H' k7 hH => ?_) o.length 0 (rng o.length) 0 _ (by omega) (RI.zero _ _) (by omega) (by simp [cnt]) (by simp) ?_ ?_ ?_ ?_ ?_ ?_
      · obtain ⟨l, rfl⟩ := hH
        simp -implicitDefEqProofs [k2, k3]
        refine cv_fz 4 hcl rfl ?_
        simp [rankP, hlong, hr, jr, tup2]
      · obtain ⟨l, rfl⟩ := hH
        simp -implicitDefEqProofs [k7]
        refine cv_fz 4 hcl rfl ?_
        simp [rankP, hlong, hr, jr, tup2]
      all_goals simp [k0, k4, k5, cnt]
    all_goals simp
end
end Go.Proofs.Ytbfeaikiiamhaaa
/- H14 -/
namespace Go.Proofs.Ytbfeaikiiamhaaa
open Go.Ab
def tb (l : List Int) : List SV := (List.range 17).map fun c : Nat => bl (decide ((c : Int) ∈ l))
theorem tb_len (l : List Int) : (tb l).length = 17 := by simp [tb]
theorem tb_at {l : List Int} {c : Nat} (h : c < 17) (h' : c < (tb l).length) : (tb l)[c] = bl (decide ((c : Int) ∈ l)) := by
  simp only [tb, List.getElem_map, List.getElem_range]
theorem tb_set {l : List Int} {c : Nat} (h : c < 17) : (tb l).set c (bl true) = tb (l ++ [(c : Int)]) := by
  apply List.ext_getElem (by simp [tb_len])
  intro k h1 h2
  rw [List.getElem_set]
  split
  · rename_i e; subst e
    simp only [tb, List.getElem_map, List.getElem_range, List.mem_append, List.mem_singleton]
    simp
  · rename_i e
    simp only [tb, List.getElem_map, List.getElem_range, List.mem_append, List.mem_singleton]
    have : ¬ ((k : Int) = c) := by omega
    simp [this]
theorem tb_cells (l : List Int) : cellsOk (tb l) := by
  intro s hs
  simp only [tb, List.mem_map] at hs
  obtain ⟨c, _, rfl⟩ := hs
  rfl
section
variable {H : List AO} {x : SV} {o : List Int}
theorem loop25_0 (hx : IsI H x o) {n : Nat} (hn : n ≤ 17) (ho : o.length = n) {N : Nat} {K : XE → Env → List AO → Prop}
    (hret : ¬ vld n o → ∀ env c, env.get 2 = i64 0 → env.get 3 = i64 3 → K .ret env (H ++ [c])) (hexit : vld n o → ∀ env c, env.get 0 = x → K (.exit 0) env (H ++ [c])) :
    ∀ (k i : Nat) (env : Env), i + k = n → ((∀ y ∈ o.take i, 0 ≤ y ∧ y < n) ∧ (o.take i).Nodup) → env.get 0 = x → env.get 4 = .ptr (.own H.length 0 0 0 0) 0 → env.get 16 = x → env.get 17 = i64 n → env.get 18 = i64 i →
      LI Try.prog N drawB l25_0 env (H ++ [⟨tb (o.take i), 89, 0, true⟩]) K := by
  intro k
  induction k with
  | zero =>
    intro i env hi hv h0 h4 h16 h17 h18
    refine li_go hm l25_0.eq_1 ?_
    have e : i = n := by omega
    subst e
    rw [List.take_of_length_le (by omega)] at hv
    simp -implicitDefEqProofs [h0, h4, h16, h17, h18]
    exact hexit hv _ _ (by simp [h0])
  | succ k ih =>
    intro i env hi hv h0 h4 h16 h17 h18
    refine li_go hm l25_0.eq_1 ?_
    have hlt : i < n := by omega
    have hlo : i < o.length := by omega
    have hstep := ih (i + 1)
    rw [List.take_succ_eq_append_getElem hlo] at hstep
    have hmem : o[i] ∈ o := List.getElem_mem hlo
    by_cases hb : o[i] < 0 ∨ (n : Int) ≤ o[i]
    · have hnv : ¬ vld n o := fun h => by have := h.1 _ hmem; omega
      simp -implicitDefEqProofs [h0, h4, h16, h17, h18, hlt, hlo, ho, hx.vd, hx.ug, hx.sl, hx.len, hx.vA _ hlo, hx.okA _ hlo, hb]
      refine ⟨fun _ _ => by omega, fun _ _ => by omega, hret hnv _ _ (by simp) (by simp)⟩
    · obtain ⟨c, hc⟩ : ∃ c : Nat, o[i] = c := ⟨o[i].toNat, by omega⟩
      have hc17 : c < 17 := by omega
      have htl := tb_len (o.take i)
      have hta := tb_at (l := o.take i) hc17 (by omega)
      have hts := tb_set (l := o.take i) hc17
      rw [List.set_eq_take_append_cons_drop, if_pos (by omega)] at hts
      rw [hc] at hstep hb
      have hcn : c < n := by omega
      have hc0 : ¬ ((c : Int) < 0) := by omega
      have hcn' : ¬ n ≤ c := by omega
      by_cases hm2 : (c : Int) ∈ o.take i
      · have hnv : ¬ vld n o := fun h => by
          obtain ⟨j, hj, e⟩ := List.getElem_of_mem hm2
          rw [List.getElem_take, ← hc] at e
          have hj' : j < i := by simp at hj; omega
          have := (List.getElem_inj h.2).1 e
          omega
        simp -implicitDefEqProofs [h0, h4, h16, h17, h18, hlt, hlo, ho, hx.vd, hx.ug, hx.sl, hx.len, hx.vA _ hlo, hx.okA _ hlo, hc0, hcn', hc, hc17, hta, htl, hm2, hcn]
        refine ⟨by omega, by omega, hret hnv _ _ (by simp) (by simp)⟩
      · simp -implicitDefEqProofs [h0, h4, h16, h17, h18, hlt, hlo, ho, hx.vd, hx.ug, hx.sl, hx.len, hx.vA _ hlo, hx.okA _ hlo, hc0, hcn', hc, hc17, hta, htl, hm2, hcn, hts, wrap_suc (show i < 9223372036854775807 by omega)]
        refine ⟨by omega, by omega, by omega, by omega, hstep _ (by omega) ?_ ?_ ?_ ?_ ?_ ?_⟩
        · refine ⟨fun y hy => ?_, ?_⟩
          · rcases List.mem_append.1 hy with h | h
            · exact hv.1 y h
            · rw [List.mem_singleton] at h; omega
          · rw [List.nodup_append]
            refine ⟨hv.2, by simp, fun a ha b hb => ?_⟩
            rw [List.mem_singleton] at hb
            rintro rfl
            exact hm2 (hb ▸ ha)
        all_goals simp [h0, h4, h16, h17]
theorem loop25_2 {d : List Int} (hd : d.length = 17) {n : Nat} (hn : n ≤ 17) {v : Int} {i : Nat} (hi : i < n) {a : AO} {e0 e8 e9 e10 e39 e40 e41 : SV} {N : Nat} {K : XE → Env → List AO → Prop} (hf : i + ((d.take n).drop i).idxOf v < n)
    (hexit : ∀ env, env.get 0 = e0 → env.get 7 = .ptr (.own (H.length + 1) 0 0 0 0) 0 → env.get 8 = e8 → env.get 9 = e9 → env.get 10 = e10 → env.get 39 = e39 → env.get 40 = e40 → env.get 41 = e41 → env.get 12 = i64 ((i + ((d.take n).drop i).idxOf v : Nat) : Int) → K (.exit 4) env (H ++ [a, ⟨ints d, 86, 0, true⟩])) :
    ∀ (m k : Nat) (env : Env), i + k + m = i + ((d.take n).drop i).idxOf v → env.get 0 = e0 → env.get 7 = .ptr (.own (H.length + 1) 0 0 0 0) 0 → env.get 8 = e8 → env.get 9 = e9 → env.get 10 = e10 → env.get 39 = e39 → env.get 40 = e40 → env.get 41 = e41 → env.get 11 = i64 v → env.get 12 = i64 ((i + k : Nat) : Int) →
      LI Try.prog N drawB l25_2 env (H ++ [a, ⟨ints d, 86, 0, true⟩]) K := by
  have hdn : (d.take n).length = n := by simp [hd]; omega
  intro m
  induction m with
  | zero =>
    intro k env hm0 h0 h7 h8 h9 h10 h39 h40 h41 h11 h12
    refine li_go hm l25_2.eq_1 ?_
    have hat := idx_at (l := d.take n) (x := v) (i := i) (by omega)
    rw [hm0.symm.trans (Nat.add_zero _)] at hexit hf
    obtain ⟨j, hj⟩ : ∃ j : Nat, i + k = j := ⟨_, rfl⟩
    have hat' : d[j]'(by omega) = v := by
      have h := hat
      rw [List.getElem_take] at h
      have e : i + ((d.take n).drop i).idxOf v = j := by omega
      simp only [e] at h
      exact h
    rw [hj] at h12 hexit hf
    have hj17 : j < 17 := by omega
    have hj17' : (j : Int) < 17 := by omega
    simp -implicitDefEqProofs [h0, h7, h8, h9, h10, h39, h40, h41, h11, h12, hd, hj17, hj17', hat']
    refine ⟨by omega, hexit _ ?_ ?_ ?_ ?_ ?_ ?_ ?_ ?_ ?_⟩ <;> simp [h0, h7, h8, h9, h10, h39, h40, h41, h12]
  | succ m ih =>
    intro k env hm0 h0 h7 h8 h9 h10 h39 h40 h41 h11 h12
    refine li_go hm l25_2.eq_1 ?_
    have hne' := idx_ne (l := d.take n) (x := v) (i := i) (k := k) (by omega) (by omega)
    have hst := ih (k + 1)
    rw [show i + (k + 1) = i + k + 1 by omega] at hst
    obtain ⟨j, hj⟩ : ∃ j : Nat, i + k = j := ⟨_, rfl⟩
    have hjn : j < n := by omega
    have hne : d[j]'(by omega) ≠ v := by
      intro e
      apply hne'
      rw [List.getElem_take]
      simp only [hj]
      exact e
    rw [hj] at h12 hst
    have hj17 : j < 17 := by omega
    have hj17' : (j : Int) < 17 := by omega
    simp -implicitDefEqProofs [h0, h7, h8, h9, h10, h39, h40, h41, h11, h12, hd, hj17, hj17', hne, wrap_suc (show j < 9223372036854775807 by omega)]
    refine ⟨by omega, hst _ (by omega) ?_ ?_ ?_ ?_ ?_ ?_ ?_ ?_ ?_ ?_⟩
    all_goals simp [h0, h7, h8, h9, h10, h39, h40, h41, h11]
end
end Go.Proofs.Ytbfeaikiiamhaaa
/- H15 -/
namespace Go.Proofs.Ytbfeaikiiamhaaa
open Go.Ab
section
variable {H : List AO} {x : SV} {o : List Int}
theorem loop25_1 (hx : IsI H x o) {n : Nat} (hn : n ≤ 17) (ho : o.length = n) (hv : vld n o) {r : Option Int} {a : AO} {N : Nat} {K : XE → Env → List AO → Prop}
    (hexit : ∀ s, r = some s → ∀ env d, env.get 8 = i64 s → K (.exit 2) env (H ++ [a, ⟨ints d, 86, 0, true⟩])) :
    ∀ (k i : Nat) (d : List Int) (s : Int) (env : Env), i + k = n → d.length = 17 → RI n o i (d.take n) → 0 ≤ s → s < cnt n i → r = rankF n (o.drop i) i (d.take n) s → env.get 0 = x → env.get 7 = .ptr (.own (H.length + 1) 0 0 0 0) 0 → env.get 8 = i64 s → env.get 9 = i64 (cnt n i) → env.get 39 = x → env.get 40 = i64 n → env.get 41 = i64 i →
      LI Try.prog N drawB l25_1 env (H ++ [a, ⟨ints d, 86, 0, true⟩]) K := by
  intro k
  induction k with
  | zero =>
    intro i d s env hi hd hR h0s hs hr h0 h7 h8 h9 h39 h40 h41
    refine li_go hm l25_1.eq_1 ?_
    have e : i = n := by omega
    subst e
    simp -implicitDefEqProofs [h0, h7, h8, h9, h39, h40, h41]
    rw [List.drop_of_length_le (by omega)] at hr
    exact hexit s hr _ _ (by simp [h8])
  | succ k ih =>
    intro i d s env hi hd hR h0s hs hr h0 h7 h8 h9 h39 h40 h41
    refine li_go hm l25_1.eq_1 ?_
    have hlt : i < n := by omega
    have hlo : i < o.length := by omega
    have hmem := hR.mem hv hlo
    have hfd := (hR.found (x := o[i]) (by omega)).2 hmem
    have hst := hR.step hlt hlo hmem
    have hql : ((d.take n).drop i).idxOf o[i] < ((d.take n).drop i).length := List.idxOf_lt_length_iff.2 hmem
    have hdn : (d.take n).length = n := by simp [hd]; omega
    have hqn : i + ((d.take n).drop i).idxOf o[i] < n := by simp only [List.length_drop, hdn] at hql; omega
    rw [List.drop_eq_getElem_cons hlo] at hr
    unfold rankF at hr
    rw [if_neg hfd] at hr
    simp -implicitDefEqProofs [h0, h7, h8, h9, h39, h40, h41, hlt, ho, hx.vd, hx.ug, hx.sl, hx.len, hx.vA _ hlo, hx.okA _ hlo]
    refine loop25_2 hd hn (v := o[i]) hlt (a := a) (e0 := x) (e8 := i64 s) (e9 := i64 (cnt n i)) (e10 := i64 i) (e39 := x) (e40 := i64 n) (e41 := i64 i) hqn (fun env k0 k7 k8 k9 k10 k39 k40 k41 k12 => ?_) (((d.take n).drop i).idxOf o[i]) 0 _ (by omega) ?_ ?_ ?_ ?_ ?_ ?_ ?_ ?_ ?_ ?_
    · generalize hq : ((d.take n).drop i).idxOf o[i] = q at hr k12 hqn hst
      obtain ⟨s1, s2, s3, s4, s5⟩ := rank_step (q := q) hn hlt hqn h0s hs
      obtain ⟨j, hj⟩ : ∃ j : Nat, i + q = j := ⟨_, rfl⟩
      rw [hj] at hr k12 hqn hst
      have e1 : swp (d.take n) i j = (swp d i j).take n := (swp_take hlt hqn).symm
      rw [e1] at hr hst
      have hstep := ih (i + 1) (swp d i j) (s + cnt n i * (q : Int))
      have hj17 : j < 17 := by omega
      have hi17 : i < 17 := by omega
      have hsl : (swp d i j).length = 17 := by rw [swp_len, hd]
      have hq2 : (j : Int) - i = (q : Int) := by omega
      have w1 : IntKind.i64.wrap ((j : Int) - i) = (q : Int) := by rw [hq2]; exact wrap_id (by omega) (by omega)
      have w2 : IntKind.i64.wrap ((n : Int) - i) = (n : Int) - i := wrap_id (by omega) (by omega)
      have hc2 := cnt_rng n (by omega) (i + 1) (by omega) (by omega)
      have w3 : IntKind.i64.wrap ((q : Int) * cnt n i) = cnt n i * (q : Int) := by rw [Int.mul_comm]; exact wrap_id (by omega) (by omega)
      have w4 : IntKind.i64.wrap (s + cnt n i * (q : Int)) = s + cnt n i * (q : Int) := wrap_id (by omega) (by omega)
      have w5 : IntKind.i64.wrap (cnt n i * ((n : Int) - i)) = cnt n (i + 1) := by rw [s5]; exact wrap_id (by omega) (by omega)
      simp -implicitDefEqProofs [k0, k7, k8, k9, k10, k39, k40, k41, k12, hd]
      refine call_go (ok46 hd hi17 hj17) ?_
      have hdr : List.drop 17 (ints d) = [] := List.drop_of_length_le (by simp [hd])
      simp -implicitDefEqProofs [k0, k7, k8, k9, k10, k39, k40, k41, k12, hd, hsl, hdr, w1, w2, w3, w4, w5, hx.vd, hx.ug, hx.sl, hx.len, ho, wrap_suc (show i < 9223372036854775807 by omega)]
      refine hstep _ (by omega) hsl hst s2 s3 hr ?_ ?_ ?_ ?_ ?_ ?_ ?_
      all_goals simp [k0, k7, k39, k40]
    all_goals simp [h0, h7, h8, h9, h39, h40, h41]
theorem rankF_some {n : Nat} {o : List Int} (ho : o.length = n) (hv : vld n o) : ∀ (k i : Nat) (l : List Int) (s : Int), i + k = n → RI n o i l → ∃ t, rankF n (o.drop i) i l s = some t := by
  intro k
  induction k with
  | zero =>
    intro i l s hi h
    rw [List.drop_of_length_le (by omega)]
    exact ⟨s, rfl⟩
  | succ k ih =>
    intro i l s hi h
    have hlt : i < o.length := by omega
    rw [List.drop_eq_getElem_cons hlt]
    unfold rankF
    have hx := h.mem hv hlt
    rw [if_neg ((h.found (by omega)).2 hx)]
    exact ih (i + 1) _ _ (by omega) (h.step (by omega) hlt hx)
theorem ok25 (hx : IsI H x o) : Ok Try.prog 25 [x] H (.ret (tup2 (rankP o))) H := by
  refine ok_fn hm Try.func25 c25 (by simp) fun hcl => ?_
  by_cases hlong : 17 < (o.length : Int)
  · simp -implicitDefEqProofs [i25, r25, hx.vd, hx.ug, hx.sl, hx.len, hlong, rankP, tup2]
    exact cv_id
  · simp -implicitDefEqProofs [i25, r25, hx.vd, hx.ug, hx.sl, hx.len, hlong]
    refine LI.cong (H' := H ++ [⟨tb (o.take 0), 89, 0, true⟩]) (by simp [tb]) (loop25_0 hx (n := o.length) (by omega) rfl (fun hv env c k2 k3 => ?_) (fun hv env c k0 => ?_) o.length 0 _ (by omega) (by simp) ?_ ?_ ?_ ?_ ?_)
    · have hr := rankF_none rfl hv
      simp -implicitDefEqProofs [k2, k3]
      refine cv_fz 4 hcl rfl ?_
      simp [rankP, hlong, hr, jr, tup2]
    · have hd : deck0.length = 17 := rfl
      have hdt := deck_take (n := o.length) (by omega)
      simp -implicitDefEqProofs [k0]
      refine call_go ok45 ?_
      simp -implicitDefEqProofs [k0, hd, hx.vd, hx.ug, hx.sl, hx.len]
      refine loop25_1 hx (n := o.length) (by omega) rfl hv (r := rankF o.length o 0 (rng o.length) 0) (fun s hr env d k8 => ?_) o.length 0 deck0 0 _ (by omega) hd (by rw [hdt]; exact RI.zero _ _) (by omega) (by simp [cnt]) (by rw [hdt]; simp) ?_ ?_ ?_ ?_ ?_ ?_ ?_
      · simp -implicitDefEqProofs [k8]
        refine cv_fz 4 hcl rfl ?_
        simp [rankP, hlong, hr, jr, tup2]
      all_goals simp [k0, cnt]
    all_goals simp
end
end Go.Proofs.Ytbfeaikiiamhaaa
/- H16 -/
namespace Go.Proofs.Ytbfeaikiiamhaaa
open Go.Ab
theorem permV_eq (n s : Int) : ∃ (a : List Int) (c : Int), permV n s = .tup [sl a, i64 c] ∧ a.length ≤ 100 := by
  unfold permV
  split
  · exact ⟨[], 2, rfl, by simp⟩
  · split
    · exact ⟨[], 2, rfl, by simp⟩
    · refine ⟨_, 0, rfl, ?_⟩
      have : (prm n.toNat s).length ≤ 17 := by
        unfold prm
        rw [List.length_take, permF_len]
        have : deck0.length = 17 := rfl
        omega
      omega
theorem ok5 (n s : Int) (o : List Int) : Ok Try.prog 5 [i64 n, i64 s, sl o] [] (.ret (bl true)) [] := by
  refine ok_fn hm Try.func5 c5 (by simp) fun hcl => ?_
  by_cases hlong : 30 < (o.length : Int)
  · simp -implicitDefEqProofs [i5, r5, sl, hlong]
    refine call_go awake_ok ?_
    simp -implicitDefEqProofs
    exact cv_id
  · simp -implicitDefEqProofs [i5, r5, sl, hlong]
    have hl : o.length < 4611686018427387904 := by omega
    refine ⟨by omega, by omega, ?_⟩
    have hx : IsI [⟨ints o, 3, 1, true⟩] (.own 0 0 o.length 1 1) o := IsI.whole (H := []) (L := [⟨ints o, 3, 1, true⟩]) (k := 0) (T := 3) rfl rfl
    generalize hG : ([⟨ints o, 3, 1, true⟩] : List AO) = G at hx ⊢
    have h1 := ok23 (H := G) n s
    have h2 := ok24 (H := G) n s
    have h3 := ok25 hx
    have h4 := ok26 (IsI.slc G o)
    obtain ⟨a, c, hv, ha⟩ := permV_eq n s
    rw [hv] at h1 h2
    generalize rankP o = p at h3 h4
    obtain ⟨p1, p2⟩ := p
    simp only [tup2, sl] at h1 h2 h3 h4
    refine call_go h1 ?_
    simp -implicitDefEqProofs
    refine call_go h2 ?_
    simp -implicitDefEqProofs
    refine call_go h3 ?_
    simp -implicitDefEqProofs
    refine call_go h4 ?_
    simp -implicitDefEqProofs
    refine call_go (ok22s (IsI.slc G a) (IsI.slc G a) (by omega)) ?_
    simp -implicitDefEqProofs
    refine callq_st (r := bl true) (fun _ => by simp only [List.map_cons, List.map_nil, SV.strip]; exact ok22s hx (IsI.slc G o) hl) ?_
    simp -implicitDefEqProofs
    refine callq_go (fun _ => awake_ok) ?_
    simp -implicitDefEqProofs
    exact cv_fz (H := []) (L := G) 2 hcl rfl (by simp)
end Go.Proofs.Ytbfeaikiiamhaaa
/- H17 -/
namespace Go.Proofs.Ytbfeaikiiamhaaa
open Go.Ab
def code (l : List Int) : Int := l.foldl (fun c x => c * 6 + x) 0
def nof (n : Nat) : Nat := (cnt n n).toNat
def dkB (n s : Nat) : Bool :=
  let l := prm n s
  l.length == n && (l.all fun x => decide (0 ≤ x) && decide (x < n)) && decide l.Nodup && decide (rankP l = ((s : Int), (0 : Int))) && ((List.range s).all fun t => !(code (prm n t) == code l))
def decksB : Bool := (List.range 6).all fun n => (List.range (nof n)).all fun s => dkB n s
theorem decks : decksB = true := by kernel_rfl
end Go.Proofs.Ytbfeaikiiamhaaa
/- H18 -/
namespace Go.Proofs.Ytbfeaikiiamhaaa
open Go.Ab
theorem code_take {l : List Int} {i : Nat} (h : i < l.length) : code (l.take (i + 1)) = code (l.take i) * 6 + l[i] := by
  unfold code; rw [List.take_succ_eq_append_getElem h, List.foldl_append]; rfl
theorem code_rng : ∀ (l : List Int) (n : Nat), l.length ≤ n → (∀ x ∈ l, 0 ≤ x ∧ x < 6) → 0 ≤ code l ∧ code l < 6 ^ n := by
  intro l n
  induction n generalizing l with
  | zero => intro h _; have : l = [] := List.eq_nil_of_length_eq_zero (by omega); subst this; simp [code]
  | succ n ih =>
    intro h hx
    rcases List.eq_nil_or_concat l with rfl | ⟨r, x, rfl⟩
    · simp [code]; exact Int.pow_pos (by omega)
    · have h1 := ih r (by simp at h; omega) (fun y hy => hx y (by simp [hy]))
      have h2 := hx x (by simp)
      have : code (r ++ [x]) = code r * 6 + x := by simp [code]
      rw [List.concat_eq_append, this, Int.pow_succ]
      omega
section
variable {H : List AO}
theorem ok19 (x : Int) {n : Int} (hn : 0 < n) (hn2 : n ≤ 9223372036854775807) : Ok Try.prog 19 [i64 x, i64 n] H (.ret (i64 (x % n))) H := by
  refine ok_fn hm Try.func19 c19 (by simp) fun hcl => ?_
  simp -implicitDefEqProofs [i19, r19]
  refine ⟨by omega, ?_⟩
  have h1 := Int.tmod_lt_of_pos x hn
  have h2 := Int.lt_tmod_of_pos x hn
  have h3 := Int.emod_nonneg x (show n ≠ 0 by omega)
  have h4 := Int.emod_lt_of_pos x hn
  have h5 := Int.tmod_eq_emod (a := x) (b := n)
  have h6 : (n.natAbs : Int) = n := by omega
  split
  · have : IntKind.i64.wrap (x.tmod n + n) = x % n := by
      rw [wrap_id (by omega) (by omega)]
      split at h5 <;> omega
    rw [this]; exact cv_id
  · have : x.tmod n = x % n := by split at h5 <;> omega
    rw [this]; exact cv_id
theorem loop6_0 {n : Nat} (hn : n < 6) {N : Nat} {K : XE → Env → List AO → Prop}
    (hexit : ∀ env, env.get 0 = i64 n → env.get 3 = i64 (facI (n - 1)) → K (.exit 0) env H) :
    ∀ (k i : Nat) (env : Env), i + k = n - 1 → env.get 0 = i64 n → env.get 3 = i64 (facI i) → env.get 4 = i64 ((i + 2 : Nat) : Int) → LI Try.prog N drawB l6_0 env H K := by
  intro k
  induction k with
  | zero =>
    intro i env hi h0 h3 h4
    refine li_go hm l6_0.eq_1 ?_
    have e : i = n - 1 := by omega
    subst e
    simp -implicitDefEqProofs [h0, h3, h4, show ¬ (((n - 1 : Nat) : Int) + 2 ≤ n) by omega]
    exact hexit _ (by simp [h0]) (by simp [h3])
  | succ k ih =>
    intro i env hi h0 h3 h4
    refine li_go hm l6_0.eq_1 ?_
    have hc2 := fac_rng (i + 1) (by omega)
    have w3 : IntKind.i64.wrap (facI i * ((i : Int) + 2)) = facI (i + 1) := wrap_id (by show -_ ≤ facI (i + 1); omega) (by show facI (i + 1) ≤ _; omega)
    simp -implicitDefEqProofs [h0, h3, h4, show ((i : Int) + 2 ≤ n) by omega, w3]
    rw [wrap_id (n := (i : Int) + 2 + 1) (by omega) (by omega)]
    exact ih (i + 1) _ (by omega) (by simp [h0]) (by simp) (by rw [show (i : Int) + 2 + 1 = ((i + 1 + 2 : Nat) : Int) by omega]; simp)
theorem loop6_3 {l : List Int} {i : Nat} (hi : i < l.length) (hl : l.length < 6) (hnd : l.Nodup) {e0 e3 e5 e6 e11 : SV} {N : Nat} {K : XE → Env → List AO → Prop}
    (hexit : ∀ env, env.get 0 = e0 → env.get 3 = e3 → env.get 5 = e5 → env.get 6 = e6 → env.get 7 = sl l → env.get 11 = e11 → env.get 12 = i64 i → K (.exit 6) env H) :
    ∀ (m k : Nat) (env : Env), k + m = i → env.get 0 = e0 → env.get 3 = e3 → env.get 5 = e5 → env.get 6 = e6 → env.get 7 = sl l → env.get 11 = e11 → env.get 12 = i64 i → env.get 13 = i64 k → LI Try.prog N drawB l6_3 env H K := by
  intro m
  induction m with
  | zero =>
    intro k env hk h0 h3 h5 h6 h7 h11 h12 h13
    refine li_go hm l6_3.eq_1 ?_
    have e : k = i := by omega
    subst e
    simp -implicitDefEqProofs [h0, h3, h5, h6, h7, h11, h12, h13]
    refine hexit _ ?_ ?_ ?_ ?_ ?_ ?_ ?_ <;> simp [h0, h3, h5, h6, h7, h11, h12]
  | succ m ih =>
    intro k env hk h0 h3 h5 h6 h7 h11 h12 h13
    refine li_go hm l6_3.eq_1 ?_
    have hki : k < i := by omega
    have hkl : k < l.length := by omega
    have hne : ¬ l[i] = l[k] := fun e => by have := (List.getElem_inj hnd).1 e; omega
    simp -implicitDefEqProofs [h0, h3, h5, h6, h7, h11, h12, h13, sl, hki, hkl, hi, hne, wrap_suc (show k < 9223372036854775807 by omega)]
    refine ⟨by omega, by omega, ih (k + 1) _ (by omega) ?_ ?_ ?_ ?_ ?_ ?_ ?_ ?_⟩ <;> simp [h0, h3, h5, h6, h7, h11, h12, sl]
theorem loop6_2 {l : List Int} {n : Nat} (hn : l.length = n) (hl : n < 6) (hnd : l.Nodup) (hr : ∀ x ∈ l, 0 ≤ x ∧ x < n) {e3 e5 e6 : SV} {N : Nat} {K : XE → Env → List AO → Prop}
    (hexit : ∀ env, env.get 0 = i64 n → env.get 3 = e3 → env.get 5 = e5 → env.get 6 = e6 → env.get 11 = i64 (code l) → K (.exit 4) env H) :
    ∀ (m i : Nat) (env : Env), i + m = n → env.get 0 = i64 n → env.get 3 = e3 → env.get 5 = e5 → env.get 6 = e6 → env.get 7 = sl l → env.get 11 = i64 (code (l.take i)) → env.get 12 = i64 i → LI Try.prog N drawB l6_2 env H K := by
  intro m
  induction m with
  | zero =>
    intro i env hi h0 h3 h5 h6 h7 h11 h12
    refine li_go hm l6_2.eq_1 ?_
    have e : i = n := by omega
    subst e
    rw [List.take_of_length_le (by omega)] at h11
    simp -implicitDefEqProofs [h0, h3, h5, h6, h7, h11, h12]
    refine hexit _ ?_ ?_ ?_ ?_ ?_ <;> simp [h0, h3, h5, h6, h11]
  | succ m ih =>
    intro i env hi h0 h3 h5 h6 h7 h11 h12
    refine li_go hm l6_2.eq_1 ?_
    have hin : i < n := by omega
    have hil : i < l.length := by omega
    have hx := hr _ (List.getElem_mem hil)
    have hc := code_rng (l.take i) 6 (by simp; omega) (fun x hx => by have := hr x (List.mem_of_mem_take hx); omega)
    have e66 : (6 : Int) ^ 6 = 46656 := by decide
    rw [e66] at hc
    have w : IntKind.i64.wrap (code (l.take i) * 6) = code (l.take i) * 6 := wrap_id (by omega) (by omega)
    have w2 : IntKind.i64.wrap (code (l.take i) * 6 + l[i]) = code (l.take (i + 1)) := by rw [code_take hil]; exact wrap_id (by omega) (by omega)
    simp -implicitDefEqProofs [h0, h3, h5, h6, h7, h11, h12, hin]
    refine loop6_3 hil (by omega) hnd (e0 := i64 n) (e3 := e3) (e5 := e5) (e6 := e6) (e11 := i64 (code (l.take i))) (fun env k0 k3 k5 k6 k7 k11 k12 => ?_) i 0 _ (by omega) ?_ ?_ ?_ ?_ ?_ ?_ ?_ ?_
    · have h1 : ¬ l[i] < 0 := by omega
      have h2 : ¬ (n : Int) ≤ l[i] := by omega
      simp -implicitDefEqProofs [k0, k3, k5, k6, k7, k11, k12, sl, hil, h1, h2, w, w2, wrap_suc (show i < 9223372036854775807 by omega)]
      refine ⟨by omega, ih (i + 1) _ (by omega) ?_ ?_ ?_ ?_ ?_ ?_ ?_⟩ <;> simp [k0, k3, k5, k6, k7, sl]
    all_goals simp [h0, h3, h5, h6, h7, h11, h12]
theorem loop6_4 {x : SV} {l : List Int} (hx : IsI H x l) (hl : l.length < 1000) {c : Int} (hc : c ∉ l) {e0 e3 e6 : SV} {N : Nat} {K : XE → Env → List AO → Prop}
    (hexit : ∀ env, env.get 0 = e0 → env.get 3 = e3 → env.get 5 = x → env.get 6 = e6 → env.get 11 = i64 c → K (.exit 8) env H) :
    ∀ (m k : Nat) (env : Env), k + m = l.length → env.get 0 = e0 → env.get 3 = e3 → env.get 5 = x → env.get 6 = e6 → env.get 11 = i64 c → env.get 14 = i64 k → LI Try.prog N drawB l6_4 env H K := by
  intro m
  induction m with
  | zero =>
    intro k env hk h0 h3 h5 h6 h11 h14
    refine li_go hm l6_4.eq_1 ?_
    have e : k = l.length := by omega
    subst e
    simp -implicitDefEqProofs [h0, h3, h5, h6, h11, h14, hx.vd, hx.ug, hx.sl, hx.len]
    refine hexit _ ?_ ?_ ?_ ?_ ?_ <;> simp [h0, h3, h5, h6, h11]
  | succ m ih =>
    intro k env hk h0 h3 h5 h6 h11 h14
    refine li_go hm l6_4.eq_1 ?_
    have hkl : k < l.length := by omega
    have hne : ¬ l[k] = c := fun e => hc (e ▸ List.getElem_mem hkl)
    simp -implicitDefEqProofs [h0, h3, h5, h6, h11, h14, hx.vd, hx.ug, hx.sl, hx.len, hkl, hx.v hkl, hx.ok hkl, hne, wrap_suc (show k < 9223372036854775807 by omega)]
    refine ih (k + 1) _ (by omega) ?_ ?_ ?_ ?_ ?_ ?_ <;> simp [h0, h3, h5, h6, h11]
end
end Go.Proofs.Ytbfeaikiiamhaaa
/- H19 -/
namespace Go.Proofs.Ytbfeaikiiamhaaa
open Go.Ab
def codes (n s : Nat) : List Int := (List.range s).map fun t : Nat => code (prm n t)
theorem dk_of {n s : Nat} (hn : n < 6) (hs : s < nof n) : (prm n s).length = n ∧ (∀ x ∈ prm n s, 0 ≤ x ∧ x < n) ∧ (prm n s).Nodup ∧ rankP (prm n s) = ((s : Int), (0 : Int)) ∧ code (prm n s) ∉ codes n s := by
  have h := decks
  simp only [decksB, List.all_eq_true, List.mem_range] at h
  have h1 := h n hn s hs
  simp only [dkB, Bool.and_eq_true, beq_iff_eq, List.all_eq_true, decide_eq_true_eq, List.mem_range, Bool.not_eq_true', beq_eq_false_iff_ne] at h1
  obtain ⟨⟨⟨⟨h2, h3⟩, h4⟩, h5⟩, h6⟩ := h1
  refine ⟨h2, h3, h4, h5, fun hm => ?_⟩
  simp only [codes, List.mem_map, List.mem_range] at hm
  obtain ⟨t, ht, he⟩ := hm
  exact h6 t ht he
theorem nof_rng : ∀ n < 6, cnt n n = nof n ∧ nof n ≤ 120 ∧ facI (n - 1) = nof n := by decide
theorem codes_len (n s : Nat) : (codes n s).length = s := by simp [codes]
theorem codes_snoc (n s : Nat) : codes n (s + 1) = codes n s ++ [code (prm n s)] := by simp [codes, List.range_succ]
section
variable {H : List AO}
theorem loop6_1 {n : Nat} (hn : n < 6) {N : Nat} {K : XE → Env → List AO → Prop}
    (hexit : ∀ env L, env.get 0 = i64 n → env.get 3 = i64 (nof n : Int) → K (.exit 2) env (H ++ rw1 (nof n) (codes n (nof n)) :: L)) :
    ∀ (m s : Nat) (env : Env) (L : List AO), s + m = nof n → env.get 0 = i64 n → env.get 3 = i64 (nof n : Int) → env.get 5 = .own H.length 0 s 1 s → env.get 6 = i64 s → LI Try.prog N drawB l6_1 env (H ++ rw1 s (codes n s) :: L) K := by
  have hf := nof_rng n hn
  intro m
  induction m with
  | zero =>
    intro s env L hs h0 h3 h5 h6
    refine li_go hm l6_1.eq_1 ?_
    have e : s = nof n := by omega
    subst e
    simp -implicitDefEqProofs [h0, h3, h5, h6]
    refine hexit _ L ?_ ?_ <;> simp [h0, h3]
  | succ m ih =>
    intro s env L hs h0 h3 h5 h6
    refine li_go hm l6_1.eq_1 ?_
    have hlt : s < nof n := by omega
    obtain ⟨d1, d2, d3, d4, d5⟩ := dk_of hn hlt
    have hp : permV n s = .tup [sl (prm n s), i64 0] := by
      unfold permV
      rw [if_neg (by omega), if_neg (by simp only [Int.toNat_natCast]; omega)]; rfl
    have hcl := codes_len n s
    have hx : IsI (H ++ rw1 s (codes n s) :: L) (.own (H.length + 0) 0 s 1 s) (codes n s) := IsI.whole (T := 3) rfl hcl.symm
    simp only [Nat.add_zero] at hx
    have hstep := ih (s + 1)
    rw [codes_snoc] at hstep
    generalize hG : (H ++ rw1 s (codes n s) :: L : List AO) = G at hx ⊢
    have h1 := ok23 (H := G) n s
    have h2 := ok25 (IsI.slc G (prm n s))
    rw [hp] at h1
    rw [d4] at h2
    simp only [tup2, sl] at h1 h2
    generalize prm n s = l at d1 d2 d3 d5 h1 h2 hstep
    simp -implicitDefEqProofs [h0, h3, h5, h6, hlt]
    refine call_go h1 ?_
    simp -implicitDefEqProofs
    refine call_go h2 ?_
    simp -implicitDefEqProofs [h0, h6, d1]
    refine loop6_2 d1 hn d3 d2 (e3 := i64 (nof n : Int)) (e5 := .own H.length 0 s 1 s) (e6 := i64 s) (fun env k0 k3 k5 k6 k11 => ?_) n 0 _ (by omega) ?_ ?_ ?_ ?_ ?_ ?_ ?_
    · simp -implicitDefEqProofs [k0, k3, k5, k6, k11]
      refine loop6_4 hx (by omega) d5 (e0 := i64 n) (e3 := i64 (nof n : Int)) (e6 := i64 s) (fun env k0 k3 k5 k6 k11 => ?_) s 0 _ (by omega) ?_ ?_ ?_ ?_ ?_ ?_
      · subst hG
        simp -implicitDefEqProofs [k0, k3, k5, k6, k11, rw1, hcl, wrap_suc (show s < 9223372036854775807 by omega)]
        refine ⟨by omega, by omega, ?_⟩
        refine LI.cong (H' := H ++ rw1 (s + 1) (codes n s ++ [code l]) :: (L ++ [⟨[i64 (code l)], 3, 0, true⟩])) (by simp [rw1, ints]) (hstep _ _ (by omega) ?_ ?_ ?_ ?_)
        all_goals simp [k0, k3]
      all_goals simp [k0, k3, k5, k6, k11]
    all_goals simp [h0, h3, h5, h6, code, sl, d1]
end
theorem ok6 (a : Int) : Ok Try.prog 6 [i64 a] [] (.ret (bl true)) [] := by
  refine ok_fn hm Try.func6 c6 (by simp) fun hcl => ?_
  have h19 := ok19 (H := []) a (n := 6) (by omega) (by omega)
  obtain ⟨n, hn, hn6⟩ : ∃ n : Nat, a % 6 = n ∧ n < 6 := ⟨(a % 6).toNat, by omega, by omega⟩
  rw [hn] at h19
  have hf := nof_rng n hn6
  simp -implicitDefEqProofs [i6, r6]
  refine call_go h19 ?_
  simp -implicitDefEqProofs
  refine loop6_0 hn6 (fun env k0 k3 => ?_) (n - 1) 0 _ (by omega) ?_ ?_ ?_
  · rw [hf.2.2] at k3
    simp -implicitDefEqProofs [k0, k3]
    refine LI.cong (H' := [] ++ rw1 0 (codes n 0) :: []) (by simp [rw1, codes, ints]) (loop6_1 hn6 (fun env L k0 k3 => ?_) (nof n) 0 _ [] (by omega) ?_ ?_ ?_ ?_)
    · simp -implicitDefEqProofs [k0, k3]
      have h1 := ok23 (H := rw1 (nof n) (codes n (nof n)) :: L) n (nof n : Int)
      have hp : permV n (nof n : Int) = .tup [sl [], i64 2] := by
        unfold permV
        rw [if_neg (by omega), if_pos (by simp only [Int.toNat_natCast]; omega)]
      rw [hp] at h1
      refine call_go h1 ?_
      simp -implicitDefEqProofs
      refine callq_go (fun _ => awake_ok) ?_
      simp -implicitDefEqProofs
      exact cv_fz (H := []) 2 hcl rfl (by simp)
    all_goals simp [k0, k3]
  all_goals simp [facI]
end Go.Proofs.Ytbfeaikiiamhaaa
/- H20 -/
namespace Go.Proofs.Ytbfeaikiiamhaaa
open Go.Ab
def prd : List Int → Int
  | [] => 1
  | r :: l => r * prd l
def atS : Int → Int → List Int → Int
  | a, _, [] => a
  | a, s, r :: l => atS (a * r + s % r) (s / r) l
theorem prd_snoc : ∀ (l : List Int) (r : Int), prd (l ++ [r]) = prd l * r
  | [], r => by simp [prd]
  | x :: l, r => by simp only [List.cons_append, prd, prd_snoc l r, Int.mul_assoc]
theorem atS_snoc : ∀ (l : List Int) (a s r : Int), atS a s (l ++ [r]) = atS a s l * r + rest s l % r
  | [], a, s, r => rfl
  | x :: l, a, s, r => by simp only [List.cons_append, atS, rest, atS_snoc l]
theorem prd_pos : ∀ {l : List Int}, (∀ x ∈ l, 1 ≤ x ∧ x ≤ 6) → 1 ≤ prd l
  | [], _ => by simp [prd]
  | r :: l, h => by
    have h1 := (h r (by simp)).1
    have h2 := prd_pos (l := l) fun x hx => h x (by simp [hx])
    have h3 : 1 * 1 ≤ r * prd l := Int.mul_le_mul h1 h2 (by omega) (by omega)
    simp only [prd]; omega
theorem prd_le : ∀ {l : List Int}, (∀ x ∈ l, 1 ≤ x ∧ x ≤ 6) → prd l ≤ 6 ^ l.length
  | [], _ => by simp [prd]
  | r :: l, h => by
    have h1 := h r (by simp)
    have h2 := prd_le (l := l) fun x hx => h x (by simp [hx])
    have h4 := prd_pos (l := l) fun x hx => h x (by simp [hx])
    have h3 : r * prd l ≤ 6 * 6 ^ l.length := Int.mul_le_mul h1.2 h2 (by omega) (by omega)
    simp only [prd, List.length_cons, Int.pow_succ]; omega
theorem prd_small {l : List Int} (h : ∀ x ∈ l, 1 ≤ x ∧ x ≤ 6) (hl : l.length ≤ 4) : prd l ≤ 1296 := by
  have h1 := prd_le h
  have h2 : (6 : Int) ^ l.length ≤ 6 ^ 4 := by
    have : 6 ^ l.length ≤ 6 ^ 4 := Nat.pow_le_pow_right (by omega) hl
    exact_mod_cast this
  have h3 : (6 : Int) ^ 4 = 1296 := by decide
  omega
theorem rest_zero : ∀ {l : List Int} {s : Int}, (∀ x ∈ l, 1 ≤ x ∧ x ≤ 6) → 0 ≤ s → s < prd l → rest s l = 0
  | [], s, _, h0, h => by simp only [prd] at h; simp only [rest]; omega
  | r :: l, s, hx, h0, h => by
    have hr := (hx r (by simp)).1
    simp only [prd] at h
    simp only [rest]
    exact rest_zero (fun x h => hx x (by simp [h])) (Int.ediv_nonneg h0 (by omega)) (Int.ediv_lt_of_lt_mul (by omega) (by rw [Int.mul_comm]; exact h))
theorem dgR_digs : ∀ {l : List Int} {s : Int}, (∀ x ∈ l, 1 ≤ x) → dgR (digs s l) l = 0
  | [], _, _ => rfl
  | r :: l, s, h => by
    have hr := h r (by simp)
    have h1 := Int.emod_nonneg s (by omega : r ≠ 0)
    have h2 := Int.emod_lt_of_pos s (by omega : 0 < r)
    simp only [digs, dgR]
    rw [if_neg (by omega)]
    exact dgR_digs fun x hx => h x (by simp [hx])
theorem digs_take : ∀ (l : List Int) (s : Int) (i : Nat), (digs s l).take i = digs s (l.take i)
  | [], s, i => by simp [digs]
  | r :: l, s, 0 => by simp [digs]
  | r :: l, s, i + 1 => by simp [digs, digs_take l]
theorem digs_at {l : List Int} {s : Int} {i : Nat} (h : i < l.length) : (digs s l)[i]'(by rw [digs_len]; exact h) = rest s (l.take i) % l[i] := by
  have e1 := digs_snoc s (l.take i) l[i]
  rw [← List.take_succ_eq_append_getElem h, ← digs_take] at e1
  have h2 : i < (digs s l).length := by rw [digs_len]; exact h
  rw [List.take_succ_eq_append_getElem h2, digs_take] at e1
  simpa using e1
theorem jn_back {l : List Int} {s : Int} (hx : ∀ x ∈ l, 1 ≤ x ∧ x ≤ 1000000000) (h0 : 0 ≤ s) (hs : s < 1000000000000000) : ∀ k, k ≤ l.length → jn (digs s l) l k (rest s (l.take k)) = some s := by
  intro k
  induction k with
  | zero => intro _; simp [jn, rest]
  | succ k ih =>
    intro hk
    have hlt : k < l.length := by omega
    have hd : k < (digs s l).length := by rw [digs_len]; exact hlt
    have hr := hx _ (List.getElem_mem hlt)
    have e2 := rest_snoc s (l.take k) l[k]
    rw [← List.take_succ_eq_append_getElem hlt] at e2
    have hq := rest_rng (l := l.take k) (s := s) (fun x h => hx x (List.mem_of_mem_take h)) h0
    have g1 : (digs s l).getD k 0 = rest s (l.take k) % l[k] := by rw [List.getD_eq_getElem?_getD, List.getElem?_eq_getElem hd, digs_at hlt]; rfl
    have g2 : l.getD k 0 = l[k] := by simp [hlt]
    have hm := Int.emod_nonneg (rest s (l.take k)) (by omega : l[k] ≠ 0)
    have hm2 := Int.emod_lt_of_pos (rest s (l.take k)) (by omega : 0 < l[k])
    have hdm := Int.mul_ediv_add_emod (rest s (l.take k)) l[k]
    rw [Int.mul_comm] at hdm
    unfold jn
    rw [e2, g1, g2, if_neg, hdm]
    · exact ih (by omega)
    · rw [Int.not_lt]
      exact (Int.le_ediv_iff_mul_le (by omega)).2 (by omega)
theorem atS_rng : ∀ {l : List Int} {a s : Int}, (∀ x ∈ l, 1 ≤ x ∧ x ≤ 6) → 0 ≤ a → 0 ≤ atS a s l ∧ atS a s l < (a + 1) * prd l
  | [], a, s, _, h => by simp only [atS, prd]; omega
  | r :: l, a, s, hx, h => by
    have hr := hx r (by simp)
    have h1 := Int.emod_nonneg s (by omega : r ≠ 0)
    have h2 := Int.emod_lt_of_pos s (by omega : 0 < r)
    have h3 : 0 ≤ a * r := Int.mul_nonneg h (by omega)
    have ih := atS_rng (l := l) (a := a * r + s % r) (s := s / r) (fun x h => hx x (by simp [h])) (by omega)
    have hp := prd_pos (l := l) fun x h => hx x (by simp [h])
    have h4 : (a * r + s % r + 1) * prd l ≤ ((a + 1) * r) * prd l := Int.mul_le_mul_of_nonneg_right (by rw [Int.add_mul]; omega) (by omega)
    simp only [atS, prd]
    rw [← Int.mul_assoc]
    omega
theorem atS_inj : ∀ {l : List Int} {a b s t : Int}, (∀ x ∈ l, 1 ≤ x ∧ x ≤ 6) → 0 ≤ s → 0 ≤ t → s < prd l → t < prd l → atS a s l = atS b t l → a = b ∧ s = t
  | [], a, b, s, t, _, h1, h2, h3, h4, h => by simp only [prd] at h3 h4; simp only [atS] at h; exact ⟨h, by omega⟩
  | r :: l, a, b, s, t, hx, h1, h2, h3, h4, h => by
    have hr := hx r (by simp)
    simp only [prd] at h3 h4
    simp only [atS] at h
    obtain ⟨g1, g2⟩ := atS_inj (l := l) (fun x h => hx x (by simp [h])) (Int.ediv_nonneg h1 (by omega)) (Int.ediv_nonneg h2 (by omega))
      (Int.ediv_lt_of_lt_mul (by omega) (by rw [Int.mul_comm]; exact h3)) (Int.ediv_lt_of_lt_mul (by omega) (by rw [Int.mul_comm]; exact h4)) h
    have m1 := Int.emod_nonneg s (by omega : r ≠ 0)
    have m2 := Int.emod_lt_of_pos s (by omega : 0 < r)
    have m3 := Int.emod_nonneg t (by omega : r ≠ 0)
    have m4 := Int.emod_lt_of_pos t (by omega : 0 < r)
    have e1 : (a * r + s % r) / r = a := by rw [Int.add_comm, Int.add_mul_ediv_right _ _ (by omega), Int.ediv_eq_zero_of_lt m1 m2]; omega
    have e2 : (b * r + t % r) / r = b := by rw [Int.add_comm, Int.add_mul_ediv_right _ _ (by omega), Int.ediv_eq_zero_of_lt m3 m4]; omega
    have e3 : a = b := by rw [← e1, ← e2, g1]
    subst e3
    have e4 : s % r = t % r := by omega
    have d1 := Int.mul_ediv_add_emod s r
    have d2 := Int.mul_ediv_add_emod t r
    refine ⟨rfl, ?_⟩
    rw [← d1, ← d2, g2, e4]
theorem radE_zero {l : List Int} (hl : l.length ≤ 4) (hx : ∀ x ∈ l, 1 ≤ x ∧ x ≤ 6) : radE l = 0 := by
  have h : ∀ l : List Int, (∀ x ∈ l, 1 ≤ x ∧ x ≤ 6) → radR l = 0 := by
    intro l
    induction l with
    | nil => intro _; rfl
    | cons r l ih =>
      intro h
      have := h r (by simp)
      simp only [radR]
      rw [if_neg (by omega)]
      exact ih fun x hx => h x (by simp [hx])
  unfold radE
  rw [if_neg (by omega)]
  exact h l hx
end Go.Proofs.Ytbfeaikiiamhaaa
/- H21 -/
namespace Go.Proofs.Ytbfeaikiiamhaaa
open Go.Ab
section
variable {H : List AO}
def drO (l : List Int) (a : Nat) : AO := ⟨[.slc (ints l) l.length, i64 a], 54, 0, true⟩
/-- The next number, and where the list then stands. -/
def nx (l : List Int) (a : Nat) (n : Int) : Int × Nat := if l.length ≤ a ∨ n < 1 then (0, a) else (l.getD a 0 % n, a + 1)
theorem nx_le {l : List Int} {a : Nat} {n : Int} (h : a ≤ l.length) : (nx l a n).2 ≤ l.length := by unfold nx; split <;> simp <;> omega
theorem nx_bd {l : List Int} {a : Nat} {n : Int} (h : 1 ≤ n) : 0 ≤ (nx l a n).1 ∧ (nx l a n).1 < n := by
  unfold nx
  split
  · simp; omega
  · exact ⟨Int.emod_nonneg _ (by omega), Int.emod_lt_of_pos _ (by omega)⟩
theorem ok30 {j : Nat} {l : List Int} {a : Nat} (ho : H[j]? = some (drO l a)) (ha : a ≤ l.length) (hl : l.length ≤ 9223372036854775807) (n : Int) (hn : n ≤ 9223372036854775807) :
    Ok Try.prog 30 [.ptr (.own j 0 0 0 0) 0, i64 n] H (.ret (i64 (nx l a n).1)) (H.set j (drO l (nx l a n).2)) := by
  have e1 : objCells H j 0 = [.slc (ints l) l.length, i64 a] := objCells_of (o := drO l a) ho rfl
  have e2 : ∀ f : AO → AO, Ab.setObj H j f = H.set j (f (drO l a)) := fun f => setObj_some ho f
  have e3 : ∀ o : AO, o.live = true → o.ver = 0 → objCells (H.set j o) j 0 = o.cells := by
    intro o h1 h2
    have := objCells_of (H := H.set j o) (i := j) (o := o) (by rw [List.getElem?_set_self (getElem?_lt ho)]) h1
    rw [h2] at this; exact this
  have e4 : H.set j (drO l a) = H := by
    apply List.ext_getElem?
    intro i
    by_cases h : j = i
    · subst h; rw [List.getElem?_set_self (getElem?_lt ho), ho]
    · rw [List.getElem?_set_ne h]
  refine ok_fn hm Try.func30 c30 (by simp) fun hcl => ?_
  by_cases h1 : l.length ≤ a
  · simp -implicitDefEqProofs [i30, r30, e1, h1, show (l.length : Int) ≤ a by omega, nx, e4]
    exact cv_id
  · by_cases h2 : n < 1
    · simp -implicitDefEqProofs [i30, r30, e1, h1, show ¬ (l.length : Int) ≤ a by omega, nx, e4, h2]
      exact cv_id
    · have hlt : a < l.length := by omega
      have e5 : IntKind.i64.wrap ((a : Int) + 1) = (a : Int) + 1 := Go.Ab.wrap_suc (by omega)
      have e6 : IntKind.i64.wrap (a : Int) = (a : Int) := wrap_nat (by omega)
      simp -implicitDefEqProofs [i30, r30, e1, h1, show ¬ (l.length : Int) ≤ a by omega, nx, e2, h2, drO, e3, e5, e6, hlt]
      refine ⟨by omega, ?_⟩
      refine callq_go (fun _ => ok19 l[a] (by omega) hn) ?_
      simp -implicitDefEqProofs
      exact cv_id
theorem loop8_0 {l0 : List Int} (hl0 : l0.length ≤ 9223372036854775807) {N : Nat} {K : XE → Env → List AO → Prop}
    (hexit : ∀ env a rs L, rs.length ≤ 4 → (∀ x ∈ rs, 1 ≤ x ∧ x ≤ 6) → env.get 4 = .own 1 0 rs.length 1 rs.length → env.get 5 = i64 (prd rs) → K (.exit 0) env (drO l0 a :: rw1 rs.length rs :: L)) :
    ∀ (k : Nat) (a : Nat) (rs : List Int) (L : List AO) (env : Env), a ≤ l0.length → rs.length + k ≤ 4 → (∀ x ∈ rs, 1 ≤ x ∧ x ≤ 6) → env.get 3 = .ptr (.own 0 0 0 0 0) 0 → env.get 4 = .own 1 0 rs.length 1 rs.length → env.get 5 = i64 (prd rs) → env.get 6 = i64 k →
      LI Try.prog N drawB l8_0 env (drO l0 a :: rw1 rs.length rs :: L) K := by
  intro k
  induction k with
  | zero =>
    intro a rs L env ha hk hx h3 h4 h5 h6
    refine li_go hm l8_0.eq_1 ?_
    simp -implicitDefEqProofs [h3, h4, h5, h6]
    exact hexit _ a rs L (by omega) hx (by simp [h4]) (by simp [h5])
  | succ k ih =>
    intro a rs L env ha hk hx h3 h4 h5 h6
    refine li_go hm l8_0.eq_1 ?_
    have h30 := ok30 (H := drO l0 a :: rw1 rs.length rs :: L) (j := 0) rfl ha hl0 6 (by omega)
    have hb := nx_bd (l := l0) (a := a) (n := 6) (by omega)
    have ha' := nx_le (l := l0) (n := 6) ha
    generalize nx l0 a 6 = p at h30 hb ha'
    obtain ⟨v, a'⟩ := p
    simp only at hb ha' h30
    have hstep := ih a' (rs ++ [1 + v])
    have hx' : ∀ x ∈ rs ++ [1 + v], 1 ≤ x ∧ x ≤ 6 := by
      intro x h
      rcases List.mem_append.1 h with h | h
      · exact hx x h
      · rw [List.mem_singleton] at h; omega
    have hp := prd_small hx (by omega)
    have hp1 := prd_pos hx
    have hp2 := prd_small hx' (by simp; omega)
    have hp3 := prd_pos hx'
    rw [prd_snoc] at hp2 hp3 hstep
    have w1 : IntKind.i64.wrap (1 + v) = 1 + v := wrap_id (by omega) (by omega)
    have w2 : IntKind.i64.wrap (prd rs * (1 + v)) = prd rs * (1 + v) := wrap_id (by omega) (by omega)
    have w3 : IntKind.i64.wrap (k : Int) = (k : Int) := wrap_id (by omega) (by omega)
    have w4 : IntKind.i64.wrap (rs.length : Int) = (rs.length : Int) := wrap_id (by omega) (by omega)
    have w5 : (ints rs ++ [i64 (1 + v)])[rs.length]? = some (i64 (1 + v)) := by simp [ints]
    simp -implicitDefEqProofs [h3, h4, h5, h6, show (0 : Int) < (k : Int) + 1 by omega]
    refine call_go h30 ?_
    simp -implicitDefEqProofs [h3, h4, h5, h6, rw1, w1, w2, w3, w4, w5]
    repeat (refine ⟨by omega, ?_⟩)
    refine LI.cong (H' := drO l0 a' :: rw1 (rs ++ [1 + v]).length (rs ++ [1 + v]) :: (L ++ [⟨[i64 (1 + v)], 3, 0, true⟩])) (by simp [rw1, ints]) (hstep _ _ ha' (by simp; omega) hx' ?_ ?_ ?_ ?_)
    all_goals simp [h3]
end
end Go.Proofs.Ytbfeaikiiamhaaa
/- H22 -/
namespace Go.Proofs.Ytbfeaikiiamhaaa
open Go.Ab
def sn (l : List Int) (s : Nat) : List SV := (List.range (prd l).toNat).map fun c : Nat => bl (decide (∃ t : Nat, t < s ∧ atS 0 t l = c))
theorem sn_len (l : List Int) (s : Nat) : (sn l s).length = (prd l).toNat := by simp [sn]
section
variable {H : List AO} {x : SV} {l : List Int}
theorem sn_at (hx : ∀ x ∈ l, 1 ≤ x ∧ x ≤ 6) {s c : Nat} (hs : s < prd l) (hc : atS 0 s l = c) (h : c < (sn l s).length) : (sn l s)[c] = bl false := by
  simp only [sn, List.getElem_map, List.getElem_range]
  congr 1
  rw [decide_eq_false_iff_not]
  rintro ⟨t, ht, he⟩
  have := (atS_inj (l := l) (a := 0) (b := 0) (s := t) (t := s) hx (by omega) (by omega) (by omega) (by omega) (by rw [he, hc])).2
  omega
theorem sn_set {s c : Nat} (hc : atS 0 s l = c) : (sn l s).set c (bl true) = sn l (s + 1) := by
  apply List.ext_getElem (by simp [sn_len])
  intro k h1 h2
  rw [List.getElem_set]
  simp only [sn, List.getElem_map, List.getElem_range]
  split
  · rename_i e; subst e
    congr 1; symm; rw [decide_eq_true_eq]
    exact ⟨s, by omega, hc⟩
  · rename_i e
    congr 1
    rw [decide_eq_decide]
    constructor
    · rintro ⟨t, ht, h⟩; exact ⟨t, by omega, h⟩
    · rintro ⟨t, ht, h⟩
      refine ⟨t, ?_, h⟩
      rcases Nat.lt_or_ge t s with h3 | h3
      · exact h3
      · have : t = s := by omega
        subst this; rw [hc] at h; omega
theorem loop8_2 (hx : IsI H x l) (hl : l.length ≤ 4) (hr : ∀ x ∈ l, 1 ≤ x ∧ x ≤ 6) {s : Int} (h0 : 0 ≤ s) {e5 e7 e8 e10 : SV} {N : Nat} {K : XE → Env → List AO → Prop}
    (hexit : ∀ env, env.get 4 = x → env.get 5 = e5 → env.get 7 = e7 → env.get 8 = e8 → env.get 9 = sl (digs s l) → env.get 10 = e10 → env.get 12 = i64 (atS 0 s l) → K (.exit 4) env H) :
    ∀ (m i : Nat) (env : Env), i + m = l.length → env.get 4 = x → env.get 5 = e5 → env.get 7 = e7 → env.get 8 = e8 → env.get 9 = sl (digs s l) → env.get 10 = e10 → env.get 12 = i64 (atS 0 s (l.take i)) → env.get 13 = i64 i → LI Try.prog N drawB l8_2 env H K := by
  have hdl := digs_len s l
  intro m
  induction m with
  | zero =>
    intro i env hi h4 h5 h7 h8 h9 h10 h12 h13
    refine li_go hm l8_2.eq_1 ?_
    have e : i = l.length := by omega
    subst e
    rw [List.take_length] at h12
    simp -implicitDefEqProofs [h4, h5, h7, h8, h9, h10, h12, h13, sl, hdl]
    refine hexit _ ?_ ?_ ?_ ?_ ?_ ?_ ?_ <;> simp [h4, h5, h7, h8, h9, h10, h12, sl, hdl]
  | succ m ih =>
    intro i env hi h4 h5 h7 h8 h9 h10 h12 h13
    refine li_go hm l8_2.eq_1 ?_
    have hlt : i < l.length := by omega
    have hlt' : i < (digs s l).length := by omega
    have hb := hr _ (List.getElem_mem hlt)
    have hda := digs_at (s := s) hlt
    have hs := atS_snoc (l.take i) 0 s l[i]
    have hrt : ∀ x ∈ l.take i, 1 ≤ x ∧ x ≤ 6 := fun x hx => hr x (List.mem_of_mem_take hx)
    have hrt' : ∀ x ∈ l.take (i + 1), 1 ≤ x ∧ x ≤ 6 := fun x hx => hr x (List.mem_of_mem_take hx)
    have b1 := atS_rng (a := 0) (s := s) hrt (by omega)
    have b2 := prd_small hrt (by simp; omega)
    have b3 := atS_rng (a := 0) (s := s) hrt' (by omega)
    have b4 := prd_small hrt' (by simp; omega)
    rw [← List.take_succ_eq_append_getElem hlt, ← hda] at hs
    have hd1 := Int.emod_nonneg (rest s (l.take i)) (by omega : l[i] ≠ 0)
    have hd2 := Int.emod_lt_of_pos (rest s (l.take i)) (by omega : 0 < l[i])
    rw [← hda] at hd1 hd2
    have hstep := ih (i + 1)
    rw [hs] at hstep b3
    have m0 : 0 ≤ atS 0 s (l.take i) * l[i] := Int.mul_nonneg (by omega) (by omega)
    have w1 : IntKind.i64.wrap (atS 0 s (l.take i) * l[i]) = atS 0 s (l.take i) * l[i] := wrap_id (by omega) (by omega)
    have w2 : IntKind.i64.wrap (atS 0 s (l.take i) * l[i] + (digs s l)[i]) = atS 0 s (l.take i) * l[i] + (digs s l)[i] := wrap_id (by omega) (by omega)
    have n1 : ¬ (digs s l)[i] < 0 := by omega
    have n2 : ¬ l[i] ≤ (digs s l)[i] := by omega
    simp -implicitDefEqProofs [h4, h5, h7, h8, h9, h10, h12, h13, sl, hdl, hlt, hlt', hx.vd, hx.ug, hx.sl, hx.len, hx.v hlt, hx.ok hlt, n1, n2, w1, w2, wrap_suc (show i < 9223372036854775807 by omega)]
    repeat (refine ⟨by omega, ?_⟩)
    refine hstep _ (by omega) ?_ ?_ ?_ ?_ ?_ ?_ ?_ ?_ <;> simp [h4, h5, h7, h8, h9, h10, sl, hdl]
theorem loop8_1 (hx : IsI H x l) (hl : l.length ≤ 4) (hr : ∀ x ∈ l, 1 ≤ x ∧ x ≤ 6) {N : Nat} {K : XE → Env → List AO → Prop}
    (hexit : ∀ env, K (.exit 2) env (H ++ [⟨sn l (prd l).toNat, 4, 0, true⟩])) :
    ∀ (m s : Nat) (env : Env), ((s + m : Nat) : Int) = prd l → env.get 4 = x → env.get 5 = i64 (prd l) → env.get 7 = .own H.length 0 (prd l).toNat 1 0 → env.get 8 = i64 s →
      LI Try.prog N drawB l8_1 env (H ++ [⟨sn l s, 4, 0, true⟩]) K := by
  have hp1 := prd_pos hr
  have hp2 := prd_small hr hl
  intro m
  induction m with
  | zero =>
    intro s env hi h4 h5 h7 h8
    refine li_go hm l8_1.eq_1 ?_
    have e : (prd l).toNat = s := by omega
    rw [e] at hexit
    simp -implicitDefEqProofs [h4, h5, h7, h8, show ¬ ((s : Int) < prd l) by omega]
    exact hexit _
  | succ m ih =>
    intro s env hi h4 h5 h7 h8
    refine li_go hm l8_1.eq_1 ?_
    have hs : (s : Int) < prd l := by omega
    have hstep := ih (s + 1)
    have h0 : radE l = 0 := radE_zero hl hr
    have hsp : splitV s l = .tup [sl (digs s l), i64 0, i64 0] := by
      unfold splitV
      rw [if_neg (by omega), if_neg (by omega), rest_zero hr (by omega) hs]
    have hdl := digs_len (s : Int) l
    have hdg := dgR_digs (l := l) (s := s) fun x hx => (hr x hx).1
    have hj := jn_back (l := l) (s := s) (fun x hx => by have := hr x hx; omega) (by omega) (by omega) l.length (Nat.le_refl _)
    rw [List.take_length, rest_zero hr (by omega) hs] at hj
    have hjp : joinP (digs s l) l 0 = ((s : Int), (0 : Int)) := by
      unfold joinP
      rw [if_neg (by omega), if_neg (by omega), if_neg (by omega), if_neg (by omega), hj]; rfl
    have hxa := hx.app [⟨sn l s, 4, 0, true⟩]
    have h21 := ok21 hxa (by omega) (s : Int)
    have h28 := ok28 (IsI.slc _ (digs s l)) hxa (by omega) 0
    rw [hsp] at h21
    rw [hjp] at h28
    simp only [tup2, sl] at h21 h28
    have b1 := atS_rng (a := 0) (s := (s : Int)) hr (by omega)
    obtain ⟨c, hc⟩ : ∃ c : Nat, atS 0 s l = c := ⟨(atS 0 s l).toNat, by omega⟩
    have hcl : c < (prd l).toNat := by omega
    have hcl' : (c : Int) < prd l := by omega
    have hsl := sn_len l s
    have hsa := sn_at hr hs hc (by omega)
    have hss := sn_set hc
    rw [List.set_eq_take_append_cons_drop, if_pos (by omega)] at hss
    rw [← hss] at hstep
    simp -implicitDefEqProofs [h4, h5, h7, h8, hs]
    refine call_go h21 ?_
    simp -implicitDefEqProofs [h4, h5, h7, h8, hdl, hx.vd, hx.ug, hx.sl, hx.len]
    refine loop8_2 hxa hl hr (s := s) (by omega) (e5 := i64 (prd l)) (e7 := .own H.length 0 (prd l).toNat 1 0) (e8 := i64 s) (e10 := i64 0) (fun env k4 k5 k7 k8 k9 k10 k12 => ?_) l.length 0 _ (by omega) ?_ ?_ ?_ ?_ ?_ ?_ ?_ ?_
    · rw [hc] at k12
      simp -implicitDefEqProofs [k4, k5, k7, k8, k9, k10, k12, sl, hdl]
      refine call_go (by simpa [hdl] using h28) ?_
      simp -implicitDefEqProofs [k4, k5, k7, k8, k9, k10, k12, hcl, hcl', hsl, hsa, wrap_suc (show s < 9223372036854775807 by omega)]
      repeat (refine ⟨by omega, ?_⟩)
      refine hstep _ (by omega) ?_ ?_ ?_ ?_ <;> simp [k4, k5, k7]
    all_goals simp [h4, h5, h7, h8, sl, atS, hdl]
end
theorem ok8 (l0 : List Int) (hl0 : l0.length ≤ 9223372036854775807) : Ok Try.prog 8 [sl l0] [] (.ret (bl true)) [] := by
  refine ok_fn hm Try.func8 c8 (by simp) fun hcl => ?_
  have h30 := ok30 (H := [drO l0 0, ⟨[], 3, 0, true⟩]) (j := 0) rfl (by omega) hl0 4 (by omega)
  have hb := nx_bd (l := l0) (a := 0) (n := 4) (by omega)
  have ha' := nx_le (l := l0) (a := 0) (n := 4) (by omega)
  generalize nx l0 0 4 = p at h30 hb ha'
  obtain ⟨v, a'⟩ := p
  simp only at hb ha' h30
  obtain ⟨k, rfl⟩ : ∃ k : Nat, v = k := ⟨v.toNat, by omega⟩
  have w1 : IntKind.i64.wrap (1 + (k : Int)) = ((k + 1 : Nat) : Int) := by rw [wrap_id (by omega) (by omega)]; omega
  simp -implicitDefEqProofs [i8, r8, sl]
  refine call_go (by simpa [drO] using h30) ?_
  simp -implicitDefEqProofs [w1]
  refine LI.cong (H' := drO l0 a' :: rw1 ([] : List Int).length [] :: []) (by simp [rw1, ints, drO]) (loop8_0 hl0 (fun env a rs L hrl hr k4 k5 => ?_) (k + 1) a' [] [] _ ha' (by simp; omega) (by simp) ?_ ?_ ?_ ?_)
  · have hp1 := prd_pos hr
    have hp2 := prd_small hr hrl
    have hx : IsI (drO l0 a :: rw1 rs.length rs :: L) (.own 1 0 rs.length 1 rs.length) rs := IsI.whole (H := []) (L := drO l0 a :: rw1 rs.length rs :: L) (k := 1) (T := 3) rfl rfl
    generalize hG : (drO l0 a :: rw1 rs.length rs :: L : List AO) = G at hx ⊢
    have hz : List.replicate (prd rs).toNat (bl false) = sn rs 0 := by
      apply List.ext_getElem (by simp [sn_len])
      intro c h1 h2
      simp [sn]
    simp -implicitDefEqProofs [k4, k5]
    repeat (refine ⟨by omega, ?_⟩)
    refine LI.cong (H' := G ++ [⟨sn rs 0, 4, 0, true⟩]) (by simp [← hz]) (loop8_1 hx hrl hr (fun env => ?_) (prd rs).toNat 0 _ (by omega) ?_ ?_ ?_ ?_)
    · simp -implicitDefEqProofs
      refine call_go awake_ok ?_
      simp -implicitDefEqProofs
      exact cv_fz (H := []) 2 hcl rfl (by simp)
    all_goals simp [k4, k5]
  all_goals simp [prd]
end Go.Proofs.Ytbfeaikiiamhaaa
