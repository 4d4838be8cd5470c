/-
  Steps of the proof: contracts of functions and plain facts that the statement rests on.
-/
import Derived.Test.YtbfeaikiiamhaaaSK
import Derived.Test.YtbfeaikiiamhaaaCore5
import Derived.Test.YtbfeaikiiamhaaaIr33
import Derived.Test.YtbfeaikiiamhaaaCore4
set_option linter.all false
/- H1 -/
namespace Go.Proofs.Ytbfeaikiiamhaaa
open Go.Ab
theorem hm : Try.prog.follows .mixedOrders = true := Try.checked.mixed
/-- The error of radices. -/
def radR : List Int → Int
  | [] => 0
  | x :: r => if x < 1 ∨ 1000000000 < x then 2 else radR r
def radE (l : List Int) : Int := if 100 < (l.length : Int) then 4 else radR l
theorem radR_mem : ∀ {l : List Int}, radR l = 0 → ∀ x ∈ l, 1 ≤ x ∧ x ≤ 1000000000
  | [], _, x, hx => by simp at hx
  | y :: r, h, x, hx => by
    unfold radR at h
    split at h
    · omega
    · rcases List.mem_cons.1 hx with rfl | hx
      · omega
      · exact radR_mem h x hx
theorem radE_mem {l : List Int} (h : radE l = 0) : l.length ≤ 100 ∧ ∀ x ∈ l, 1 ≤ x ∧ x ≤ 1000000000 := by
  unfold radE at h
  split at h
  · omega
  · exact ⟨by omega, radR_mem h⟩
theorem wrap_suc {i : Nat} (h : i < 9223372036854775807) : IntKind.i64.wrap ((i : Int) + 1) = ((i + 1 : Nat) : Int) := wrap_succ (by omega)
section
variable {H : List AO} {x y : SV} {l m : List Int}
theorem radR_drop {i : Nat} (h : i < l.length) : radR (l.drop i) = if l[i] < 1 ∨ 1000000000 < l[i] then 2 else radR (l.drop (i + 1)) := by
  rw [List.drop_eq_getElem_cons h]; rfl
theorem loop43 (hx : IsI H x l) (hl : l.length < 4611686018427387904) {N : Nat} {K : XE → Env → List AO → Prop}
    (hret : radR l = 2 → ∀ env, env.get 2 = i64 2 → K .ret env H) (hexit : radR l = 0 → ∀ env, K (.exit 0) env H) :
    ∀ (n i : Nat) (env : Env), i + n = l.length → radR l = radR (l.drop i) → env.get 8 = x → env.get 9 = i64 l.length → env.get 10 = i64 i →
      LI Try.prog N drawB l43_0 env H K := by
  intro n
  induction n with
  | zero =>
    intro i env hi hp h8 h9 h10
    refine li_go hm l43_0.eq_1 ?_
    have e : i = l.length := by omega
    subst e
    simp -implicitDefEqProofs [h8, h9, h10]
    exact hexit (by rw [hp]; simp [radR]) _
  | succ n ih =>
    intro i env hi hp h8 h9 h10
    refine li_go hm l43_0.eq_1 ?_
    have hlt : i < l.length := by omega
    rw [radR_drop hlt] at hp
    simp -implicitDefEqProofs [h8, h9, h10, hlt, hx.vd, hx.ug, hx.sl, hx.len, hx.v hlt, hx.ok hlt, wrap_suc (show i < 9223372036854775807 by omega)]
    by_cases hc : l[i] < 1 ∨ 1000000000 < l[i]
    · rw [if_pos hc] at hp
      rw [if_pos hc]
      exact hret hp _ (by simp)
    · rw [if_neg hc] at hp
      rw [if_neg hc]
      refine ih (i + 1) _ (by omega) hp ?_ ?_ ?_ <;> simp [h8, h9]
theorem ok43 (hx : IsI H x l) (hl : l.length < 4611686018427387904) : Ok Try.prog 43 [x] H (.ret (i64 (radE l))) H := by
  refine ok_fn hm Try.func43 c43 (by simp) fun hcl => ?_
  by_cases h : 100 < (l.length : Int)
  · simp -implicitDefEqProofs [i43, r43, hx.vd, hx.ug, hx.sl, hx.len, h, radE]
    exact cv_id
  · simp -implicitDefEqProofs [i43, r43, hx.vd, hx.ug, hx.sl, hx.len, h, radE]
    refine loop43 hx hl (fun hr env h2 => ?_) (fun hr env => ?_) l.length 0 _ (by omega) (by simp) (by simp) (by simp) (by simp)
    · simp -implicitDefEqProofs [h2, hr]
      exact cv_id
    · simp -implicitDefEqProofs [hr]
      exact cv_id
theorem loop22 (hx : IsI H x l) (hy : IsI H y m) (hl : l.length < 4611686018427387904) (hlm : l.length = m.length) {N : Nat} {K : XE → Env → List AO → Prop}
    (hret : l ≠ m → ∀ env, env.get 4 = bl false → K .ret env H) (hexit : l = m → ∀ env, K (.exit 0) env H) :
    ∀ (n i : Nat) (env : Env), i + n = l.length → (∀ k (h : k < l.length), k < i → l[k] = m[k]'(by omega)) → env.get 0 = x → env.get 1 = y → env.get 5 = i64 i →
      LI Try.prog N drawB l22_0 env H K := by
  intro n
  induction n with
  | zero =>
    intro i env hi hp h0 h1 h5
    refine li_go hm l22_0.eq_1 ?_
    have e : i = l.length := by omega
    subst e
    simp -implicitDefEqProofs [h0, h1, h5, hx.vd, hx.ug, hx.sl, hx.len]
    exact hexit (List.ext_getElem hlm fun k h1 h2 => hp k h1 h1) _
  | succ n ih =>
    intro i env hi hp h0 h1 h5
    refine li_go hm l22_0.eq_1 ?_
    have hlt : i < l.length := by omega
    have hlt' : i < m.length := by omega
    simp -implicitDefEqProofs [h0, h1, h5, hlt, hlt', hx.vd, hx.ug, hx.sl, hx.len, hx.v hlt, hx.ok hlt, hy.vd, hy.ug, hy.sl, hy.len, hy.v hlt', hy.ok hlt']
    by_cases hc : l[i] = m[i]
    · rw [if_pos hc]
      refine ih (i + 1) _ (by omega) ?_ ?_ ?_ ?_
      rotate_left
      · simp [h0]
      · simp [h1]
      · simp [wrap_suc (show i < 9223372036854775807 by omega)]
      intro k hk hki
      by_cases e : k = i
      · subst e; exact hc
      · exact hp k hk (by omega)
    · rw [if_neg hc]
      exact hret (fun e => hc (by subst e; rfl)) _ (by simp)
theorem ok22 (hx : IsI H x l) (hy : IsI H y m) (hl : l.length < 4611686018427387904) : Ok Try.prog 22 [x, y] H (.ret (bl (decide (l = m)))) H := by
  refine ok_fn hm Try.func22 c22 (by simp) fun hcl => ?_
  by_cases hlm : l.length = m.length
  · simp -implicitDefEqProofs [i22, r22, hx.vd, hx.ug, hx.sl, hx.len, hy.vd, hy.ug, hy.sl, hy.len, hlm]
    refine loop22 hx hy hl hlm (fun hne env h4 => ?_) (fun he env => ?_) l.length 0 _ (by omega) (by omega) (by simp) (by simp) (by simp)
    · simp -implicitDefEqProofs [h4, hne]
      exact cv_id
    · simp -implicitDefEqProofs [he]
      exact cv_id
  · simp -implicitDefEqProofs [i22, r22, hx.vd, hx.ug, hx.sl, hx.len, hy.vd, hy.ug, hy.sl, hy.len, show ¬ ((l.length : Int) = m.length) by omega, hlm]
    have : l ≠ m := fun e => hlm (by rw [e])
    simp [this]
    exact cv_id
theorem ok22s (hx : IsI H x l) (hy : IsI H y l) (hl : l.length < 4611686018427387904) : Ok Try.prog 22 [x, y] H (.ret (bl true)) H := by simpa using ok22 hx hy hl
end
end Go.Proofs.Ytbfeaikiiamhaaa

/- H2 -/
namespace Go.Proofs.Ytbfeaikiiamhaaa
open Go.Ab
def sl (l : List Int) : SV := .slc (ints l) l.length
def digs : Int → List Int → List Int
  | _, [] => []
  | s, r :: l => s % r :: digs (s / r) l
def rest : Int → List Int → Int
  | s, [] => s
  | s, r :: l => rest (s / r) l
def splitV (s : Int) (l : List Int) : SV := if radE l ≠ 0 then .tup [sl [], i64 0, i64 (radE l)] else if s < 0 ∨ 1000000000000000 ≤ s then .tup [sl [], i64 0, i64 2] else .tup [sl (digs s l), i64 (rest s l), i64 0]
theorem digs_len : ∀ (s : Int) (l : List Int), (digs s l).length = l.length
  | _, [] => rfl
  | s, r :: l => by simp [digs, digs_len]
theorem digs_snoc : ∀ (s : Int) (l : List Int) (r : Int), digs s (l ++ [r]) = digs s l ++ [rest s l % r]
  | _, [], _ => rfl
  | s, x :: l, r => by simp [digs, rest, digs_snoc]
theorem rest_snoc : ∀ (s : Int) (l : List Int) (r : Int), rest s (l ++ [r]) = rest s l / r
  | _, [], _ => rfl
  | s, x :: l, r => by simp [rest, rest_snoc]
theorem rest_rng : ∀ {l : List Int} {s : Int}, (∀ x ∈ l, 1 ≤ x ∧ x ≤ 1000000000) → 0 ≤ s → 0 ≤ rest s l ∧ rest s l ≤ s
  | [], s, _, h => ⟨h, Int.le_refl _⟩
  | r :: l, s, hx, h => by
    have hr := (hx r (by simp)).1
    have h1 : 0 ≤ s / r := Int.ediv_nonneg h (by omega)
    have h2 : s / r ≤ s := Int.ediv_le_self _ h
    have := rest_rng (l := l) (fun x hx' => hx x (by simp [hx'])) h1
    simp only [rest]; omega
section
variable {H : List AO} {x : SV} {l : List Int}
def rwO (l : List Int) : AO := ⟨ints l, 3, l.length, true⟩
end
end Go.Proofs.Ytbfeaikiiamhaaa

/- H3 -/
namespace Go.Proofs.Ytbfeaikiiamhaaa
open Go.Ab
theorem fz_fn {n : Nat} {ks : List Nat} {L : List AO} {d : Nat} (f : Fn) (a b : List SV) : SV.fz n ks L (d + 2) (.fn f a b) = .fn f (a.map (SV.fz n ks L (d + 1))) (b.map (SV.fz n ks L (d + 1))) := by
  conv => lhs; unfold SV.fz
  split
  · rename_i h
    rw [SV.under, Bool.and_eq_true] at h
    rw [map_fz_under _ _ _ _ h.1, map_fz_under _ _ _ _ h.2]
  · rfl
def bxP (c : SV) : SV := .ptr (.slc [c] 0) 0
section
variable {H : List AO} {x : SV} {l : List Int}
theorem ok44 (hx : IsI H x l) (s : Int) : Ok Try.prog 44 [i64 s, x] H (.ret (.fn (.func 58) [] [bxP (i64 s), bxP x])) H := by
  refine ok_fn hm Try.func44 c44 (by simp) fun hcl => ?_
  simp -implicitDefEqProofs [i44, r44, hx.vd, hx.ug, hx.sl, hx.len, hx.cell, hx.flat]
  refine cv_fz 4 hcl rfl ?_
  simp [bxP, fz_fn, fz_under hx.und]
/-- All digits are handed to yield. -/
theorem loop58 {J : Nat → List AO → Prop} {n : Nat} {s : Int} (hl : l.length ≤ 100) (hr : ∀ x ∈ l, 1 ≤ x ∧ x ≤ 1000000000) (h0s : 0 ≤ s) (hs : s < 1000000000000000)
    (hx : ∀ i H, J i H → IsI H x l)
    (hy : ∀ i (h : i < l.length) H, J i H → YlP Try.prog n [i64 (rest s (l.take i) % l[i]), i64 (rest s (l.take i) / l[i])] H fun o H' => o = .ret (bl true) ∧ J (i + 1) H') {N : Nat} {K : XE → Env → List AO → Prop}
    (hexit : ∀ env H, J l.length H → K (.exit 0) env H) :
    ∀ (k i : Nat) (env : Env) (H : List AO), i + k = l.length → J i H → env.get 0 = .yl n → env.get 4 = i64 (rest s (l.take i)) → env.get 9 = x → env.get 10 = i64 l.length → env.get 11 = i64 i →
      LI Try.prog N drawB l58_0 env H K := by
  intro k
  induction k with
  | zero =>
    intro i env H hi hJ h0 h4 h9 h10 h11
    refine li_go hm l58_0.eq_1 ?_
    have e : i = l.length := by omega
    subst e
    simp -implicitDefEqProofs [h0, h4, h9, h10, h11]
    exact hexit _ _ hJ
  | succ k ih =>
    intro i env H hi hJ h0 h4 h9 h10 h11
    refine li_go hm l58_0.eq_1 ?_
    have hlt : i < l.length := by omega
    have hb := hr _ (List.getElem_mem hlt)
    have hq := rest_rng (l := l.take i) (s := s) (fun x hx => hr x (List.mem_of_mem_take hx)) h0s
    have e2 := rest_snoc s (l.take i) l[i]
    rw [← List.take_succ_eq_append_getElem hlt] at e2
    have t1 : (rest s (l.take i)).tmod l[i] = rest s (l.take i) % l[i] := Int.tmod_eq_emod_of_nonneg hq.1
    have t2 : (rest s (l.take i)).tdiv l[i] = rest s (l.take i) / l[i] := Int.tdiv_eq_ediv_of_nonneg hq.1
    have t3 : 0 ≤ rest s (l.take i) / l[i] := Int.ediv_nonneg hq.1 (by omega)
    have t4 : rest s (l.take i) / l[i] ≤ rest s (l.take i) := Int.ediv_le_self _ hq.1
    have w := wrap_id (n := rest s (l.take i) / l[i]) (by omega) (by omega)
    have hxi := hx i H hJ
    simp -implicitDefEqProofs [h0, h4, h9, h10, h11, hlt, hxi.vd, hxi.ug, hxi.sl, hxi.len, hxi.v hlt, hxi.ok hlt, t1, t2, w, wrap_suc (show i < 9223372036854775807 by omega)]
    refine ⟨by omega, call_yl (hy i hlt H hJ) ?_⟩
    rintro o H' ⟨rfl, hJ'⟩
    simp -implicitDefEqProofs [h0, h4, h9, h10, h11, wrap_suc (show i < 9223372036854775807 by omega)]
    refine ih (i + 1) _ H' (by omega) hJ' ?_ ?_ ?_ ?_ ?_
    all_goals simp [e2, h0, h9, h10]
theorem ok58 {J : Nat → List AO → Prop} {n : Nat} {s : Int} (hl : l.length ≤ 100) (hr : ∀ x ∈ l, 1 ≤ x ∧ x ≤ 1000000000) (h0s : 0 ≤ s) (hs : s < 1000000000000000)
    (hx : ∀ i H, J i H → IsI H x l)
    (hy : ∀ i (h : i < l.length) H, J i H → YlP Try.prog n [i64 (rest s (l.take i) % l[i]), i64 (rest s (l.take i) / l[i])] H fun o H' => o = .ret (bl true) ∧ J (i + 1) H')
    (hJ : J 0 H) : OkP Try.prog 58 [.yl n, bxP (i64 s), bxP x] H fun o H' => (∃ v, o = .ret v) ∧ J l.length H' := by
  refine okP_fn hm Try.func58 c58 (by simp) fun hcl => ?_
  have hx0 := hx 0 H hJ
  simp -implicitDefEqProofs [i58, r58, bxP, hx0.vd, hx0.ug, hx0.sl, hx0.len, hx0.flat, hx0.cell]
  refine loop58 (J := J) hl hr h0s hs hx hy (fun env H' hJ' => ?_) l.length 0 _ H (by omega) hJ ?_ ?_ ?_ ?_ ?_
  · simp -implicitDefEqProofs
    exact ⟨_, _, ⟨⟨_, rfl⟩, hJ'⟩, cv_id⟩
  all_goals simp [rest]
end
end Go.Proofs.Ytbfeaikiiamhaaa

/- H4 -/
namespace Go.Proofs.Ytbfeaikiiamhaaa
open Go.Ab
section
variable {H : List AO} {x : SV} {l : List Int}
def sH21 (H : List AO) (lo : AO) (s : Int) (l : List Int) (L : List AO) : List AO :=
  H ++ ⟨[.own (H.length + 3) 0 l.length 1 l.length], 35, 0, true⟩ :: ⟨[i64 (rest s l)], 3, 0, true⟩ :: lo :: rwO (digs s l) :: L
def e21 (H : List AO) (c : SV) : Env := [(4, .ptr (.own H.length 0 0 0 0) 0), (5, .ptr (.own (H.length + 1) 0 0 0 0) 0), (24, c)]
theorem round21 {c : SV} {s : Int} (hl : l.length ≤ 100) (hr : ∀ x ∈ l, 1 ≤ x ∧ x ≤ 1000000000) (h0s : 0 ≤ s) {i : Nat} (hi : i < l.length) (L : List AO) :
    YlP Try.prog (H.length + 2) [i64 (rest s (l.take i) % l[i]), i64 (rest s (l.take i) / l[i])] (sH21 H (lpo Try.prog 34 drawB 0 [25, 26] ya21_0 yb21_0 ((e21 H c).vals 34) .ready) s (l.take i) L) fun o H' =>
      o = .ret (bl true) ∧ ∃ L, H' = sH21 H (lpo Try.prog 34 drawB 0 [25, 26] ya21_0 yb21_0 ((e21 H c).vals 34) .ready) s (l.take (i + 1)) L := by
  have e1 := digs_snoc s (l.take i) l[i]
  have e2 := rest_snoc s (l.take i) l[i]
  rw [← List.take_succ_eq_append_getElem hi] at e1 e2
  have dl : (digs s (l.take i)).length = i := by rw [digs_len]; simp; omega
  have hil : min i l.length = i := by omega
  refine yl_go (N := 34) (env := e21 H c) hm ya21_0.eq_1 yb21_0.eq_1 (by simp [sH21]; rfl) (by simp [e21]) (by decide) rfl fun hcl => ?_
  generalize hlo : lpo Try.prog 34 drawB 0 [25, 26] ya21_0 yb21_0 ((e21 H c).vals 34) .ready = lo
  simp -implicitDefEqProofs [e21, sH21, rwO, dl, hil]
  refine ⟨_, hlo.symm, by omega, by omega, _, by simp; rfl, .ready, true, _, ⟨rfl, rfl⟩, ⟨rfl, L ++ [⟨[i64 (rest s (l.take i) % l[i])], 3, 0, true⟩], rfl⟩, cv_idq ?_⟩
  have em : min (i + 1) l.length = i + 1 := by omega
  simp [set_app, e1, e2, em, dl, hlo, ints]
theorem ok21 (hx : IsI H x l) (hl : l.length < 4611686018427387904) (s : Int) : Ok Try.prog 21 [i64 s, x] H (.ret (splitV s l)) H := by
  refine ok_fn hm Try.func21 c21 (by simp) fun hcl => ?_
  by_cases h : radE l = 0
  · obtain ⟨hl2, hr⟩ := radE_mem h
    simp -implicitDefEqProofs [i21, r21, hx.vd, hx.ug]
    refine call_go (ok43 (hx.app _) hl) ?_
    by_cases hs : s < 0 ∨ 1000000000000000 ≤ s
    · simp -implicitDefEqProofs [h, hs]
      refine ⟨rfl, Cv.le (cv_fz 4 hcl rfl rfl) ?_⟩
      simp [splitV, h, hs, sl, ints]
      exact le_tup (leL.cons le_nil (leL.cons (SV.le.refl _) (leL.cons (SV.le.refl _) leL.nil)))
    · simp -implicitDefEqProofs [h, hs, hx.vd, hx.ug]
      refine call_go (ok44 (hx.app _) s) ?_
      simp -implicitDefEqProofs [h, hs]
      refine rg_go (Pt := fun o H' => (∃ v, o = .ret v) ∧ ∃ L, H' = sH21 H (lpo Try.prog 34 drawB 0 [25, 26] ya21_0 yb21_0 ((e21 H (.fn (.func 58) [] [bxP (i64 s), bxP x])).vals 34) .ready) s l L) ?_ ?_
      · refine OkP.tell (Tell.own0 (j := H.length) (p := 0) (o := ⟨[.val (.slice none 0 0)], 35, 0, true⟩) (by simp) rfl rfl 3 1) (by simp) ?_
        refine OkP.cast (args' := [.yl (H.length + 2), bxP (i64 s), bxP x]) (H' := sH21 H (lpo Try.prog 34 drawB 0 [25, 26] ya21_0 yb21_0 ((e21 H (.fn (.func 58) [] [bxP (i64 s), bxP x])).vals 34) .ready) s [] []) (by simp) (by simp [sH21, e21, digs, rest, rwO, ints, set_app]) ?_
        refine (ok58 (J := fun i H' => ∃ L, H' = sH21 H (lpo Try.prog 34 drawB 0 [25, 26] ya21_0 yb21_0 ((e21 H (.fn (.func 58) [] [bxP (i64 s), bxP x])).vals 34) .ready) s (l.take i) L) (n := H.length + 2) (s := s) hl2 hr (by omega) (by omega) ?_ ?_ ⟨[], by simp⟩).mono ?_
        · rintro i H' ⟨L, rfl⟩
          exact hx.app _
        · rintro i hi H' ⟨L, rfl⟩
          exact round21 hl2 hr (by omega) hi L
        · rintro o H' ⟨hv, L, hH⟩
          rw [List.take_length] at hH
          exact ⟨hv, L, hH⟩
      · rintro out H' ⟨⟨v, rfl⟩, L, rfl⟩
        refine ⟨.ready, _, by simp [sH21]; rfl, ?_⟩
        simp -implicitDefEqProofs [sH21]
        refine cv_fz 4 hcl rfl ?_
        have := digs_len s l
        simp [splitV, h, hs, sl, rwO, this, List.take_of_length_le]
  · simp -implicitDefEqProofs [i21, r21, hx.vd, hx.ug]
    refine call_go (ok43 (hx.app _) hl) ?_
    simp -implicitDefEqProofs [h]
    refine ⟨rfl, Cv.le (cv_fz 4 hcl rfl rfl) ?_⟩
    simp [splitV, h, sl, ints]
    exact le_tup (leL.cons le_nil (leL.cons (SV.le.refl _) (leL.cons (SV.le.refl _) leL.nil)))
end
end Go.Proofs.Ytbfeaikiiamhaaa

/- H5 -/
namespace Go.Proofs.Ytbfeaikiiamhaaa
open Go.Ab
def jp : Option Int → Int × Int
  | none => (0, 5)
  | some n => (n, 0)
section
variable {H : List AO} {x y : SV} {l d : List Int}
end
end Go.Proofs.Ytbfeaikiiamhaaa

/- H6 -/
namespace Go.Proofs.Ytbfeaikiiamhaaa
open Go.Ab
section
variable {H : List AO} {x y : SV} {l d : List Int}
end
end Go.Proofs.Ytbfeaikiiamhaaa

/- H7 -/
namespace Go.Proofs.Ytbfeaikiiamhaaa
open Go.Ab
theorem IsI.sl (H : List AO) (l : List Int) : IsI H (sl l) l := IsI.slc H l
theorem awake_ok {H : List AO} : Ok Try.prog 11 [] H (.ret (bl true)) H := ok_lift ok11 rfl
end Go.Proofs.Ytbfeaikiiamhaaa

/- H8 -/
namespace Go.Proofs.Ytbfeaikiiamhaaa
open Go.Ab
def swp (d : List Int) (i j : Nat) : List Int := (d.set i (d.getD j 0)).set j (d.getD i 0)
section
variable {H : List AO}
theorem ints_setd {l : List Int} {k : Nat} (h : k < l.length) (v : Int) : (ints l).set k (i64 v) = ints (l.set k v) := by
  simp [ints, List.map_set]
theorem ints_sf {l : List Int} {k : Nat} (h : k < l.length) (v : Int) : (ints l).take k ++ i64 v :: (ints l).drop (k + 1) = ints (l.set k v) := by
  rw [← ints_setd h, List.set_eq_take_append_cons_drop, if_pos (by simpa using h)]
end
end Go.Proofs.Ytbfeaikiiamhaaa

/- H9 -/
namespace Go.Proofs.Ytbfeaikiiamhaaa
open Go.Ab
def rd (n i : Nat) : List Int := (List.range n).map fun k => if k < i then (n : Int) - k else 0
def rad (n : Nat) : List Int := rd n n
def cnt (n : Nat) : Nat → Int
  | 0 => 1
  | i + 1 => cnt n i * ((n : Int) - i)
theorem rd_len (n i : Nat) : (rd n i).length = n := by simp [rd]
theorem rd_set {n i : Nat} (h : i < n) : (rd n i).set i ((n : Int) - i) = rd n (i + 1) := by
  apply List.ext_getElem (by simp [rd_len])
  intro k h1 h2
  simp only [rd, List.getElem_set, List.getElem_map, List.getElem_range]
  split
  · rename_i e; subst e; simp
  · by_cases hk : k < i
    · rw [if_pos hk, if_pos (by omega)]
    · rw [if_neg hk, if_neg (by omega)]
theorem cnt_rng : ∀ n < 18, ∀ i < 18, i ≤ n → 1 ≤ cnt n i ∧ cnt n i ≤ 355687428096000 := by decide
section
variable {H : List AO}
theorem loop23 {n : Nat} (hn : n ≤ 17) {e1 : SV} {N : Nat} {K : XE → Env → List AO → Prop}
    (hexit : ∀ env, env.get 0 = i64 n → env.get 1 = e1 → env.get 6 = .own H.length 0 n 1 0 → env.get 7 = i64 (cnt n n) → K (.exit 0) env (H ++ [⟨ints (rad n), 3, 0, true⟩])) :
    ∀ (k i : Nat) (env : Env), i + k = n → env.get 0 = i64 n → env.get 1 = e1 → env.get 6 = .own H.length 0 n 1 0 → env.get 7 = i64 (cnt n i) → env.get 21 = i64 n → env.get 22 = i64 i → LI Try.prog N drawB l23_0 env (H ++ [⟨ints (rd n i), 3, 0, true⟩]) K := by
  intro k
  induction k with
  | zero =>
    intro i env hi h0 h1 h6 h7 h21 h22
    refine li_go hm l23_0.eq_1 ?_
    have e : i = n := by omega
    subst e
    simp -implicitDefEqProofs [h0, h1, h6, h7, h21, h22]
    refine hexit _ ?_ ?_ ?_ ?_ <;> simp [h0, h1, h6, h7]
  | succ k ih =>
    intro i env hi h0 h1 h6 h7 h21 h22
    refine li_go hm l23_0.eq_1 ?_
    have hlt : i < n := by omega
    have hlt' : (i : Int) < n := by omega
    have hl := rd_len n i
    have hc := cnt_rng n (by omega) i (by omega) (by omega)
    have hc2 := cnt_rng n (by omega) (i + 1) (by omega) (by omega)
    have w2 : IntKind.i64.wrap ((n : Int) - i) = (n : Int) - i := wrap_id (by omega) (by omega)
    have w3 : IntKind.i64.wrap (cnt n i * ((n : Int) - i)) = cnt n (i + 1) := wrap_id (by show -_ ≤ cnt n (i + 1); omega) (by show cnt n (i + 1) ≤ _; omega)
    simp -implicitDefEqProofs [h0, h1, h6, h7, h21, h22, hlt, hlt', hl, w2, w3, wrap_suc (show i < 9223372036854775807 by omega)]
    refine ⟨by omega, ?_⟩
    refine LI.cong (H' := H ++ [⟨ints (rd n (i + 1)), 3, 0, true⟩]) (by rw [← rd_set hlt, ← ints_sf (by omega)]) (ih (i + 1) _ (by omega) ?_ ?_ ?_ ?_ ?_ ?_)
    all_goals simp [h0, h1, h6, h21]
end
end Go.Proofs.Ytbfeaikiiamhaaa

/- H10 -/
namespace Go.Proofs.Ytbfeaikiiamhaaa
open Go.Ab
def rng (n : Nat) : List Int := (List.range n).map fun k : Nat => (k : Int)
theorem rng_len (n : Nat) : (rng n).length = n := by simp [rng]
section
variable {H : List AO}
end
end Go.Proofs.Ytbfeaikiiamhaaa

/- H11 -/
namespace Go.Proofs.Ytbfeaikiiamhaaa
open Go.Ab
structure RI (n : Nat) (o : List Int) (i : Nat) (l : List Int) : Prop where
  perm : l.Perm (rng n)
  tk : l.take i = o.take i
theorem RI.len {n : Nat} {o : List Int} {i : Nat} {l : List Int} (h : RI n o i l) : l.length = n := by rw [h.perm.length_eq, rng_len]
theorem RI.zero (n : Nat) (o : List Int) : RI n o 0 (rng n) := ⟨List.Perm.refl _, by simp⟩
theorem RI.found {n : Nat} {o : List Int} {i : Nat} {l : List Int} (h : RI n o i l) {x : Int} (hi : i ≤ n) : i + (l.drop i).idxOf x ≠ n ↔ x ∈ l.drop i := by
  have hl := h.len
  have hd : (l.drop i).length = n - i := by simp [hl]
  rw [← List.idxOf_lt_length_iff]
  have := List.idxOf_le_length (a := x) (l := l.drop i)
  omega
theorem swp_eq {l : List Int} {i k : Nat} (hi : i < l.length) (hk : k < l.length) : swp l i k = (l.set i l[k]).set k l[i] := by
  simp only [swp]
  rw [List.getD_eq_getElem?_getD, List.getElem?_eq_getElem hk, List.getD_eq_getElem?_getD, List.getElem?_eq_getElem hi]; rfl
theorem RI.step {n : Nat} {o : List Int} {i : Nat} {l : List Int} (h : RI n o i l) (hi : i < n) (ho : i < o.length) (hx : o[i] ∈ l.drop i) : RI n o (i + 1) (swp l i (i + (l.drop i).idxOf o[i])) := by
  have hl := h.len
  have hlt := List.idxOf_lt_length_iff.2 hx
  have hg := List.getElem_idxOf hlt
  generalize hk : (l.drop i).idxOf o[i] = k at hlt hg
  rw [List.getElem_drop] at hg
  have hkn : i + k < l.length := by simp at hlt; omega
  rw [swp_eq (by omega) hkn]
  refine ⟨(List.set_set_perm (by omega) hkn).trans h.perm, ?_⟩
  apply List.ext_getElem?
  intro j
  rw [List.getElem?_take, List.getElem?_take]
  by_cases hj : j < i + 1
  · rw [if_pos hj, if_pos hj]
    by_cases hji : j = i
    · subst hji
      rw [List.getElem?_eq_getElem ho]
      by_cases hk0 : k = 0
      · subst hk0
        simp only [Nat.add_zero] at hg ⊢
        rw [List.getElem?_set_self (by simp; omega), hg]
      · rw [List.getElem?_set_ne (by omega), List.getElem?_set_self (by omega), hg]
    · rw [List.getElem?_set_ne (by omega), List.getElem?_set_ne (by omega)]
      have := congrArg (·[j]?) h.tk
      simpa [List.getElem?_take, show j < i by omega] using this
  · rw [if_neg hj, if_neg hj]
end Go.Proofs.Ytbfeaikiiamhaaa

/- H12 -/
namespace Go.Proofs.Ytbfeaikiiamhaaa
open Go.Ab
section
variable {H : List AO} {x : SV} {o : List Int}
end
end Go.Proofs.Ytbfeaikiiamhaaa

/- H13 -/
namespace Go.Proofs.Ytbfeaikiiamhaaa
open Go.Ab
section
variable {H : List AO} {x : SV} {o : List Int}
end
end Go.Proofs.Ytbfeaikiiamhaaa

/- H14 -/
namespace Go.Proofs.Ytbfeaikiiamhaaa
open Go.Ab
def tb (l : List Int) : List SV := (List.range 17).map fun c : Nat => bl (decide ((c : Int) ∈ l))
section
variable {H : List AO} {x : SV} {o : List Int}
end
end Go.Proofs.Ytbfeaikiiamhaaa

/- H15 -/
namespace Go.Proofs.Ytbfeaikiiamhaaa
open Go.Ab
section
variable {H : List AO} {x : SV} {o : List Int}
end
end Go.Proofs.Ytbfeaikiiamhaaa

/- H16 -/
namespace Go.Proofs.Ytbfeaikiiamhaaa
open Go.Ab
end Go.Proofs.Ytbfeaikiiamhaaa

/- H17 -/
namespace Go.Proofs.Ytbfeaikiiamhaaa
open Go.Ab
def code (l : List Int) : Int := l.foldl (fun c x => c * 6 + x) 0
end Go.Proofs.Ytbfeaikiiamhaaa

/- H18 -/
namespace Go.Proofs.Ytbfeaikiiamhaaa
open Go.Ab
section
variable {H : List AO}
theorem ok19 (x : Int) {n : Int} (hn : 0 < n) (hn2 : n ≤ 9223372036854775807) : Ok Try.prog 19 [i64 x, i64 n] H (.ret (i64 (x % n))) H := by
  refine ok_fn hm Try.func19 c19 (by simp) fun hcl => ?_
  simp -implicitDefEqProofs [i19, r19]
  refine ⟨by omega, ?_⟩
  have h1 := Int.tmod_lt_of_pos x hn
  have h2 := Int.lt_tmod_of_pos x hn
  have h3 := Int.emod_nonneg x (show n ≠ 0 by omega)
  have h4 := Int.emod_lt_of_pos x hn
  have h5 := Int.tmod_eq_emod (a := x) (b := n)
  have h6 : (n.natAbs : Int) = n := by omega
  split
  · have : IntKind.i64.wrap (x.tmod n + n) = x % n := by
      rw [wrap_id (by omega) (by omega)]
      split at h5 <;> omega
    rw [this]; exact cv_id
  · have : x.tmod n = x % n := by split at h5 <;> omega
    rw [this]; exact cv_id
end
end Go.Proofs.Ytbfeaikiiamhaaa

/- H19 -/
namespace Go.Proofs.Ytbfeaikiiamhaaa
open Go.Ab
section
variable {H : List AO}
end
end Go.Proofs.Ytbfeaikiiamhaaa

/- H20 -/
namespace Go.Proofs.Ytbfeaikiiamhaaa
open Go.Ab
def prd : List Int → Int
  | [] => 1
  | r :: l => r * prd l
def atS : Int → Int → List Int → Int
  | a, _, [] => a
  | a, s, r :: l => atS (a * r + s % r) (s / r) l
end Go.Proofs.Ytbfeaikiiamhaaa

/- H21 -/
namespace Go.Proofs.Ytbfeaikiiamhaaa
open Go.Ab
section
variable {H : List AO}
/-- The next number, and where the list then stands. -/
def nx (l : List Int) (a : Nat) (n : Int) : Int × Nat := if l.length ≤ a ∨ n < 1 then (0, a) else (l.getD a 0 % n, a + 1)
end
end Go.Proofs.Ytbfeaikiiamhaaa

/- H22 -/
namespace Go.Proofs.Ytbfeaikiiamhaaa
open Go.Ab
def sn (l : List Int) (s : Nat) : List SV := (List.range (prd l).toNat).map fun c : Nat => bl (decide (∃ t : Nat, t < s ∧ atS 0 t l = c))
section
variable {H : List AO} {x : SV} {l : List Int}
end
end Go.Proofs.Ytbfeaikiiamhaaa

/- H_D1 -/
namespace Go.Proofs.Ytbfeaikiiamhaaa.Rc
open Go.Ab
theorem hm : Try.prog.follows .mixedOrders = true := Try.checked.mixed
section
variable {x : SV} {H : List AO} {l : List Int}
/-- A closure's variable, an integer. -/
def bx (H : List AO) (a : Nat) (n : Int) : Prop := objCells H a 0 = [i64 n] ∧ a < H.length
def outR (lo hi n : Int) : Bool := decide (n < lo) || decide (hi < n)
theorem ok72 {a b : Nat} {lo hi : Int} (ha : bx H a lo) (hb : bx H b hi) (n : Int) :
    Ok Try.prog 72 [i64 n, .ptr (.own a 0 0 0 0) 0, .ptr (.own b 0 0 0 0) 0] H (.ret (bl (outR lo hi n))) H := by
  refine ok_fn hm Try.func72 c72 (by simp [ha.2, hb.2]) fun hcl => ?_
  by_cases h1 : n < lo
  · simp -implicitDefEqProofs [i72, r72, ha.1, hb.1, h1, outR]
    exact cv_id
  · simp -implicitDefEqProofs [i72, r72, ha.1, hb.1, h1, outR]
    exact cv_id
/-- The first place of l that is out of range, or -1. -/
def fstOut (lo hi : Int) (l : List Int) : Int := match l.findIdx? (outR lo hi) with | some i => i | none => -1
theorem fstOut_ge {lo hi : Int} {l : List Int} : (0 ≤ fstOut lo hi l) = (l.any (outR lo hi) = true) := by
  unfold fstOut
  cases h : l.findIdx? (outR lo hi) with
  | some i =>
    simp only [Int.natCast_nonneg]
    refine (eq_true ?_).symm
    obtain ⟨hi, h1, h2⟩ := List.findIdx?_eq_some_iff_getElem.1 h
    exact List.any_eq_true.2 ⟨_, List.getElem_mem hi, h1⟩
  | none =>
    rw [List.findIdx?_eq_none_iff] at h
    have : l.any (outR lo hi) = false := by
      rw [List.any_eq_false]; intro x hx; simpa using h x hx
    simp [this]
theorem loop81 (hx : IsI H x l) (hl : l.length < 4611686018427387904) {a b : Nat} {lo up : Int} (ha : bx H a lo) (hb : bx H b up) {N : Nat} {K : XE → Env → List AO → Prop}
    (hret : ∀ env (i : Nat), l.findIdx? (outR lo up) = some i → env.get 4 = i64 i → K .ret env H) (hexit : l.findIdx? (outR lo up) = none → ∀ env, K (.exit 0) env H) :
    ∀ (n i : Nat) (env : Env), i + n = l.length → (∀ j (h : j < l.length), j < i → outR lo up l[j] = false) → env.get 0 = x → env.get 1 = .fn (.func 72) [] [.ptr (.own a 0 0 0 0) 0, .ptr (.own b 0 0 0 0) 0] → env.get 7 = i64 l.length → env.get 8 = i64 i →
      LI Try.prog N drawB l74_0 env H K := by
  intro n
  induction n with
  | zero =>
    intro i env hi hp h0 h1 h7 h8
    refine li_go hm l74_0.eq_1 ?_
    have e : i = l.length := by omega
    simp -implicitDefEqProofs [h7, h8, e]
    refine hexit ?_ _
    rw [List.findIdx?_eq_none_iff]
    intro y hy
    obtain ⟨j, hj, rfl⟩ := List.getElem_of_mem hy
    exact hp j hj (by omega)
  | succ n ih =>
    intro i env hi hp h0 h1 h7 h8
    refine li_go hm l74_0.eq_1 ?_
    have hlt : i < l.length := by omega
    simp -implicitDefEqProofs [h0, h1, h7, h8, hlt, hx.vd, hx.ug, hx.sl, hx.len, hx.v hlt, hx.ok hlt]
    refine call_go (ok72 ha hb _) ?_
    cases ho : outR lo up l[i] with
    | true =>
      simp -implicitDefEqProofs
      refine hret _ i ?_ (by simp)
      rw [List.findIdx?_eq_some_iff_getElem]
      exact ⟨hlt, ho, fun j hj => by simp [hp j (by omega) hj]⟩
    | false =>
      simp -implicitDefEqProofs [h8]
      refine ih (i + 1) _ (by omega) ?_ ?_ ?_ ?_ ?_
      rotate_left
      · simp [h0]
      · simp [h1]
      · simp [h7]
      · simp [h8, wrap_suc (show i < 9223372036854775807 by omega)]
      intro j hj hji
      by_cases e : j = i
      · subst e; exact ho
      · exact hp j hj (by omega)
theorem ok74 (hx : IsI H x l) (hl : l.length < 4611686018427387904) {a b : Nat} {lo up : Int} (ha : bx H a lo) (hb : bx H b up) :
    Ok Try.prog 74 [x, .fn (.func 72) [] [.ptr (.own a 0 0 0 0) 0, .ptr (.own b 0 0 0 0) 0]] H (.ret (i64 (fstOut lo up l))) H := by
  refine ok_fn hm Try.func74 c74 (by simp [ha.2, hb.2, hx.und]) fun hcl => ?_
  simp -implicitDefEqProofs [i74, r74, hx.vd, hx.ug, hx.sl, hx.len]
  refine loop81 hx hl ha hb (fun env i h1 h2 => ?_) (fun h1 env => ?_) l.length 0 _ (by omega) (by omega) (by simp) (by simp) (by simp) (by simp)
  · simp [h2, fstOut, h1]
    exact cv_id
  · simp [fstOut, h1]
    exact cv_id
theorem ok71 (hx : IsI H x l) (hl : l.length < 4611686018427387904) {a b : Nat} {lo up : Int} (ha : bx H a lo) (hb : bx H b up) :
    Ok Try.prog 71 [x, .fn (.func 72) [] [.ptr (.own a 0 0 0 0) 0, .ptr (.own b 0 0 0 0) 0]] H (.ret (bl (l.any (outR lo up)))) H := by
  refine ok_fn hm Try.func71 c71 (by simp [ha.2, hb.2, hx.und]) fun hcl => ?_
  simp -implicitDefEqProofs [i71, r71, hx.vd, hx.ug, hx.sl, hx.len]
  refine call_go (ok74 hx hl ha hb) ?_
  have e : decide (0 ≤ fstOut lo up l) = l.any (outR lo up) := by
    rw [Bool.eq_iff_iff, decide_eq_true_iff, fstOut_ge]
  simp -implicitDefEqProofs
  rw [e]
  exact cv_id
/-- The error of numbers in a range. -/
def within (lo hi : Int) (l : List Int) : Int := if l.any (outR lo hi) then 2 else 0
theorem ok68 (hx : IsI H x l) (hl : l.length < 4611686018427387904) (lo hi : Int) :
    Ok Try.prog 68 [i64 lo, i64 hi, x] H (.ret (i64 (within lo hi l))) H := by
  refine ok_fn hm Try.func68 c68 (by simp [hx.und]) fun hcl => ?_
  simp -implicitDefEqProofs [i68, r68, hx.vd, hx.ug, hx.sl, hx.len]
  refine call_go (ok71 (hx.app _) hl (a := H.length) (b := H.length + 1) (lo := lo) (up := hi) ⟨by simp, by simp⟩ ⟨by simp, by simp⟩) ?_
  by_cases h : l.any (outR lo hi) = true
  · simp -implicitDefEqProofs [h, within]
    exact cv_fz 1 hcl rfl (by simp)
  · simp -implicitDefEqProofs [h, within]
    exact cv_fz 1 hcl rfl (by simp)
end
end Go.Proofs.Ytbfeaikiiamhaaa.Rc

/- H_D2 -/
namespace Go.Proofs.Ytbfeaikiiamhaaa.Rc
open Go.Ab
/-- A node. -/
structure Nd where
  k : Int
  p : Int
  i : Int
  nx : List Int
  ws : List Int
  ps : List Int
def sl (l : List Int) : SV := .slc (ints l) l.length
def Nd.cells (x : Nd) : List SV := [i64 x.k, i64 x.p, i64 x.i, sl x.nx, sl x.ws, sl x.ps]
def nds : List Nd → List SV
  | [] => []
  | x :: r => x.cells ++ nds r
def infs : List (Int × Int) → List SV
  | [] => []
  | x :: r => i64 x.1 :: i64 x.2 :: infs r
/-- A game. -/
structure Gm where
  pl : Int
  ns : List Nd
  is : List (Int × Int)
def Gm.cells (g : Gm) : List SV := [i64 g.pl, .slc (nds g.ns) g.ns.length, .slc (infs g.is) g.is.length]
/-- A walker. -/
structure Wk (H : List AO) (j : Nat) (g : Gm) (a b c : SV) : Prop where
  o : objCells H j 0 = [i64 g.pl, .slc (nds g.ns) g.ns.length, .slc (infs g.is) g.is.length, a, b, c]
  lt : j < H.length
theorem Wk.app {H : List AO} {j : Nat} {g : Gm} {a b c : SV} (h : Wk H j g a b c) (L : List AO) : Wk (H ++ L) j g a b c := ⟨by rw [objCells_app L h.lt]; exact h.o, by have := h.lt; simp; omega⟩
def Nd.chance (x : Nd) : Int := if x.p ≠ 0 ∨ x.i ≠ 0 ∨ 0 < x.ps.length ∨ x.nx.length < 1 ∨ 60 < x.nx.length ∨ x.ws.length ≠ x.nx.length then 3 else within 1 1000 x.ws
def Nd.move (g : Gm) (x : Nd) : Int := if 0 < x.ws.length ∨ 0 < x.ps.length ∨ x.nx.length < 1 ∨ 10 < x.nx.length then 3 else
  if within 0 (g.pl - 1) [x.p] ≠ 0 then within 0 (g.pl - 1) [x.p] else within 0 (g.is.length - 1) [x.i]
def Nd.end (g : Gm) (x : Nd) : Int := if x.p ≠ 0 ∨ x.i ≠ 0 ∨ 0 < x.nx.length ∨ 0 < x.ws.length ∨ (x.ps.length : Int) ≠ g.pl then 3 else within (-1000000) 1000000 x.ps
def Nd.err (g : Gm) (x : Nd) : Int := if x.k < 1 ∨ 3 < x.k then 3 else if x.k = 1 then x.chance else if x.k = 2 then x.move g else x.end g
section
variable {x : Nd} {H : List AO} {j : Nat} {g : Gm} {a b c : SV}
theorem ok63 (h : j < H.length) : Ok Try.prog 63 [.ptr (.own j 0 0 0 0) 0, .agg x.cells] H (.ret (i64 x.chance)) H := by
  refine ok_fn hm Try.func63 c63 (by simp [Nd.cells, sl, h]) fun hcl => ?_
  simp -implicitDefEqProofs [i63, r63, Nd.cells, sl]
  have e : x.chance = if (((((¬x.p = 0 ∨ ¬x.i = 0) ∨ 0 < x.ps.length) ∨ (x.nx.length : Int) < 1) ∨ 60 < (x.nx.length : Int)) ∨ ¬(x.ws.length : Int) = x.nx.length) then 3 else within 1 1000 x.ws := by
    unfold Nd.chance
    congr 1
    simp only [eq_iff_iff]; omega
  rw [e]
  split
  · exact cv_fz 1 hcl rfl (by simp)
  · rename_i hc
    refine call_go (ok68 (IsI.slc _ _) (by omega) 1 1000) ?_
    simp -implicitDefEqProofs
    exact cv_fz 1 hcl rfl (by simp)
theorem ok65 (h : Wk H j g a b c) (h4 : g.pl ≤ 4) : Ok Try.prog 65 [.ptr (.own j 0 0 0 0) 0, .agg x.cells] H (.ret (i64 (x.end g))) H := by
  have ho := h.o
  refine ok_fn hm Try.func65 c65 (by simp [Nd.cells, sl, h.lt]) fun hcl => ?_
  simp -implicitDefEqProofs [i65, r65, Nd.cells, sl, (h.app _).o]
  have e : x.end g = if ((((¬x.p = 0 ∨ ¬x.i = 0) ∨ 0 < x.nx.length) ∨ 0 < x.ws.length) ∨ ¬(x.ps.length : Int) = g.pl) then 3 else within (-1000000) 1000000 x.ps := by
    unfold Nd.end
    congr 1
    simp only [eq_iff_iff]; omega
  rw [e]
  split
  · exact cv_fz 1 hcl rfl (by simp)
  · rename_i hc
    refine call_go (ok68 (IsI.slc _ _) (by omega) (-1000000) 1000000) ?_
    simp -implicitDefEqProofs
    exact cv_fz 1 hcl rfl (by simp)
theorem ok64 (h : Wk H j g a b c) (h1 : 1 ≤ g.pl) (h4 : g.pl ≤ 4) (h5 : g.is.length ≤ 200) : Ok Try.prog 64 [.ptr (.own j 0 0 0 0) 0, .agg x.cells] H (.ret (i64 (x.move g))) H := by
  refine ok_fn hm Try.func64 c64 (by simp [Nd.cells, sl, h.lt]) fun hcl => ?_
  have w1 : IntKind.i64.wrap (g.pl - 1) = g.pl - 1 := wrap_id (by omega) (by omega)
  have w2 : IntKind.i64.wrap ((g.is.length : Int) - 1) = (g.is.length : Int) - 1 := wrap_id (by omega) (by omega)
  simp -implicitDefEqProofs [i64x, r64, Nd.cells, sl, (h.app _).o, w1, w2]
  have e : x.move g = if ((0 < x.ws.length ∨ 0 < x.ps.length) ∨ (x.nx.length : Int) < 1) ∨ 10 < (x.nx.length : Int) then 3 else
      if within 0 (g.pl - 1) [x.p] ≠ 0 then within 0 (g.pl - 1) [x.p] else within 0 (g.is.length - 1) [x.i] := by
    unfold Nd.move
    congr 1
    simp only [eq_iff_iff]; omega
  rw [e]
  split
  · exact cv_fz 1 hcl rfl (by simp)
  · rename_i hc
    refine callq_go (fun _ => ok68 (IsI.own0 H _ 1 0 [x.p] [] 3 rfl) (by simp) 0 (g.pl - 1)) ?_
    by_cases hw : within 0 (g.pl - 1) [x.p] = 0
    · simp -implicitDefEqProofs [hw, (h.app _).o, w2]
      refine callq_go (fun _ => ok68 (IsI.own0 H _ 2 0 [x.i] [] 3 rfl) (by simp) 0 (g.is.length - 1)) ?_
      simp -implicitDefEqProofs
      exact cv_fz 1 hcl rfl (by simp [hw])
    · simp -implicitDefEqProofs [hw]
      exact cv_fz 1 hcl rfl (by simp [hw])
theorem ok59 (h : Wk H j g a b c) (h1 : 1 ≤ g.pl) (h4 : g.pl ≤ 4) (h5 : g.is.length ≤ 200) : Ok Try.prog 59 [.ptr (.own j 0 0 0 0) 0, .agg x.cells] H (.ret (i64 (x.err g))) H := by
  refine ok_fn hm Try.func59 c59 (by simp [Nd.cells, sl, h.lt]) fun hcl => ?_
  simp -implicitDefEqProofs [i59, r59, Nd.cells, sl, (h.app _).o]
  unfold Nd.err
  split
  · exact ⟨rfl, cv_fz 1 hcl rfl (by rfl)⟩
  · rename_i hc
    have hk : x.k = 1 ∨ x.k = 2 ∨ x.k = 3 := by omega
    rcases hk with hk | hk | hk
    · simp -implicitDefEqProofs [hk]
      refine ⟨rfl, call_go (by rw [← hk]; exact ok63 (x := x) (by simp; have := h.lt; omega)) ?_⟩
      simp -implicitDefEqProofs
      exact cv_fz 1 hcl rfl (by simp [hk])
    · simp -implicitDefEqProofs [hk]
      refine ⟨rfl, call_go (by rw [← hk]; exact ok64 (x := x) (h.app _) h1 h4 h5) ?_⟩
      simp -implicitDefEqProofs
      exact cv_fz 1 hcl rfl (by simp [hk])
    · simp -implicitDefEqProofs [hk]
      refine ⟨rfl, call_go (by rw [← hk]; exact ok65 (x := x) (h.app _) h4) ?_⟩
      simp -implicitDefEqProofs
      exact cv_fz 1 hcl rfl (by simp [hk])
end
end Go.Proofs.Ytbfeaikiiamhaaa.Rc

/- H_D3 -/
namespace Go.Proofs.Ytbfeaikiiamhaaa.Rc
open Go.Ab
theorem within_no {lo hi : Int} {l : List Int} (h : ∀ j (h : j < l.length), j < l.length → outR lo hi l[j] = false) : within lo hi l = 0 := by
  unfold within; rw [if_neg]
  rw [List.any_eq_true]
  rintro ⟨y, hy, h1⟩
  obtain ⟨j, hj, rfl⟩ := List.getElem_of_mem hy
  rw [h j hj hj] at h1; cases h1
theorem within_yes {lo hi : Int} {l : List Int} {j : Nat} (hj : j < l.length) (h : outR lo hi l[j] = true) : within lo hi l = 2 := by
  unfold within; rw [if_pos]
  exact List.any_eq_true.2 ⟨_, List.getElem_mem hj, h⟩
theorem within1 {lo hi n : Int} : within lo hi [n] = if n < lo ∨ hi < n then 2 else 0 := by
  unfold within; congr 1; simp [outR]
section
variable {x : Nd} {H : List AO} {q : Nat} {g : Gm}
theorem loop39_0 (hq : objCells H q 0 = [i64 x.k, i64 x.p, i64 x.i, .slc (ints x.nx) x.nx.length, .slc (ints x.ws) x.ws.length, .slc (ints x.ps) x.ps.length]) (hl : x.ws.length < 4611686018427387904) {N : Nat} {K : XE → Env → List AO → Prop}
    (hret : within 1 1000 x.ws = 2 → ∀ env, env.get 4 = i64 2 → K .ret env H) (hexit : within 1 1000 x.ws = 0 → ∀ env, K (.exit 1) env H) :
    ∀ (n i : Nat) (env : Env), i + n = x.ws.length → (∀ j (h : j < x.ws.length), j < i → outR 1 1000 x.ws[j] = false) → env.get 3 = .ptr (.own q 0 0 0 0) 0 → env.get 5 = i64 i → LI Try.prog N drawB l51_0 env H K := by
  intro n
  induction n with
  | zero =>
    intro i env hi hp h3 h5
    refine li_go hm l51_0.eq_1 ?_
    have e : i = x.ws.length := by omega
    subst e
    simp -implicitDefEqProofs [h3, h5, hq]
    exact hexit (within_no hp) _
  | succ n ih =>
    intro i env hi hp h3 h5
    refine li_go hm l51_0.eq_1 ?_
    have hlt : i < x.ws.length := by omega
    simp -implicitDefEqProofs [h3, h5, hq, hlt]
    split
    · rename_i hc
      refine ⟨by omega, by omega, ?_⟩
      exact hret (within_yes hlt (by simp [outR]; omega)) _ (by simp)
    · rename_i hc
      refine ⟨by omega, by omega, ?_⟩
      refine ih (i + 1) _ (by omega) ?_ ?_ ?_
      rotate_left
      · simp [h3]
      · simp [wrap_suc (show i < 9223372036854775807 by omega)]
      intro j hj hji
      by_cases e : j = i
      · subst e; simp [outR]; omega
      · exact hp j hj (by omega)
theorem loop39_1 (hq : objCells H q 0 = [i64 x.k, i64 x.p, i64 x.i, .slc (ints x.nx) x.nx.length, .slc (ints x.ws) x.ws.length, .slc (ints x.ps) x.ps.length]) (hl : x.ps.length < 4611686018427387904) {N : Nat} {K : XE → Env → List AO → Prop}
    (hret : within (-1000000) 1000000 x.ps = 2 → ∀ env, env.get 4 = i64 2 → K .ret env H) (hexit : within (-1000000) 1000000 x.ps = 0 → ∀ env, K (.exit 3) env H) :
    ∀ (n i : Nat) (env : Env), i + n = x.ps.length → (∀ j (h : j < x.ps.length), j < i → outR (-1000000) 1000000 x.ps[j] = false) → env.get 3 = .ptr (.own q 0 0 0 0) 0 → env.get 6 = i64 i → LI Try.prog N drawB l51_1 env H K := by
  intro n
  induction n with
  | zero =>
    intro i env hi hp h3 h5
    refine li_go hm l51_1.eq_1 ?_
    have e : i = x.ps.length := by omega
    subst e
    simp -implicitDefEqProofs [h3, h5, hq]
    exact hexit (within_no hp) _
  | succ n ih =>
    intro i env hi hp h3 h5
    refine li_go hm l51_1.eq_1 ?_
    have hlt : i < x.ps.length := by omega
    simp -implicitDefEqProofs [h3, h5, hq, hlt]
    split
    · rename_i hc
      refine ⟨by omega, by omega, ?_⟩
      exact hret (within_yes hlt (by simp [outR]; omega)) _ (by simp)
    · rename_i hc
      refine ⟨by omega, by omega, ?_⟩
      refine ih (i + 1) _ (by omega) ?_ ?_ ?_
      rotate_left
      · simp [h3]
      · simp [wrap_suc (show i < 9223372036854775807 by omega)]
      intro j hj hji
      by_cases e : j = i
      · subst e; simp [outR]; omega
      · exact hp j hj (by omega)
set_option maxRecDepth 10000 in
theorem ok51 (h1 : 1 ≤ g.pl) (h4 : g.pl ≤ 4) (h5 : g.is.length ≤ 200) : Ok Try.prog 51 [.agg g.cells, .agg x.cells] H (.ret (i64 (x.err g))) H := by
  refine ok_fn hm Try.func51 c51 (by simp [Nd.cells, sl, Gm.cells]) fun hcl => ?_
  by_cases k1 : x.k = 1
  · have e : x.err g = if (((((¬x.p = 0 ∨ ¬x.i = 0) ∨ 0 < x.ps.length) ∨ (x.nx.length : Int) < 1) ∨ 60 < (x.nx.length : Int)) ∨ ¬(x.ws.length : Int) = x.nx.length) then 3 else within 1 1000 x.ws := by
      unfold Nd.err Nd.chance
      rw [if_neg (by omega), if_pos k1]
      congr 1
      simp only [eq_iff_iff]; omega
    rw [e]
    simp -implicitDefEqProofs [i51, r51, Nd.cells, sl, Gm.cells, k1]
    split
    · exact cv_fz 1 hcl rfl (by simp)
    · refine loop39_0 (q := H.length + 1) (x := x) (by simp [k1]) (by omega) (fun e1 env e2 => ?_) (fun e1 env => ?_) x.ws.length 0 _ (by omega) (by omega) (by simp) (by simp)
      · simp -implicitDefEqProofs [e1, e2]
        exact cv_fz 1 hcl rfl (by simp)
      · simp -implicitDefEqProofs [e1]
        exact cv_fz 1 hcl rfl (by simp)
  by_cases k2 : x.k = 2
  · have e : x.err g = if (((0 < x.ps.length ∨ 0 < x.ws.length) ∨ (x.nx.length : Int) < 1) ∨ 10 < (x.nx.length : Int)) then 3 else if ((x.p < 0 ∨ g.pl ≤ x.p) ∨ x.i < 0) ∨ g.is.length ≤ x.i then 2 else 0 := by
      unfold Nd.err Nd.move
      rw [if_neg (by omega), if_neg k1, if_pos k2]
      rw [within1, within1]
      by_cases hA : 0 < x.ws.length ∨ 0 < x.ps.length ∨ x.nx.length < 1 ∨ 10 < x.nx.length
      · rw [if_pos hA, if_pos (by omega)]
      · rw [if_neg hA, if_neg (show ¬ (((0 < x.ps.length ∨ 0 < x.ws.length) ∨ (x.nx.length : Int) < 1) ∨ 10 < (x.nx.length : Int)) by omega)]
        by_cases hp : x.p < 0 ∨ g.pl - 1 < x.p
        · rw [if_pos hp, if_pos (by decide), if_pos (by omega)]
        · rw [if_neg hp, if_neg (by decide)]
          by_cases hi : x.i < 0 ∨ g.is.length - 1 < x.i
          · rw [if_pos hi, if_pos (by omega)]
          · rw [if_neg hi, if_neg (by omega)]
    rw [e]
    simp -implicitDefEqProofs [i51, r51, Nd.cells, sl, Gm.cells, k1, k2]
    split
    · exact cv_fz 1 hcl rfl (by simp)
    · split
      · exact cv_fz 1 hcl rfl (by simp)
      · exact cv_fz 1 hcl rfl (by simp)
  by_cases k3 : x.k = 3
  · have e : x.err g = if ((((¬x.p = 0 ∨ ¬x.i = 0) ∨ 0 < x.nx.length) ∨ 0 < x.ws.length) ∨ ¬(x.ps.length : Int) = g.pl) then 3 else within (-1000000) 1000000 x.ps := by
      unfold Nd.err Nd.end
      rw [if_neg (by omega), if_neg k1, if_neg k2]
      congr 1
      simp only [eq_iff_iff]; omega
    rw [e]
    simp -implicitDefEqProofs [i51, r51, Nd.cells, sl, Gm.cells, k3]
    split
    · exact cv_fz 1 hcl rfl (by simp)
    · refine loop39_1 (q := H.length + 1) (x := x) (by simp [k3]) (by omega) (fun e1 env e2 => ?_) (fun e1 env => ?_) x.ps.length 0 _ (by omega) (by omega) (by simp) (by simp)
      · simp -implicitDefEqProofs [e1, e2]
        exact cv_fz 1 hcl rfl (by simp)
      · simp -implicitDefEqProofs [e1]
        exact cv_fz 1 hcl rfl (by simp)
  have e : x.err g = 3 := by
    unfold Nd.err
    rw [if_pos (by omega)]
  rw [e]
  simp -implicitDefEqProofs [i51, r51, Nd.cells, sl, Gm.cells, k1, k2, k3]
  exact cv_fz 1 hcl rfl (by simp)
end
end Go.Proofs.Ytbfeaikiiamhaaa.Rc

/- H_D4 -/
namespace Go.Proofs.Ytbfeaikiiamhaaa.Rc
open Go.Ab
/-- What a walk finds. -/
structure W3 where
  P : List Int
  D : List Int
  L : List Int
def kids (w : Nat → W3 → Option Nat × W3) : List Int → Nat → W3 → Option Nat × W3
  | [], r, s => (some r, s)
  | c :: cs, r, s => if c = r then (match w r s with | (none, s) => (none, s) | (some r, s) => kids w cs r s) else (none, s)
def walkS (ns : List Nd) : Nat → Int → Int → Nat → W3 → Option Nat × W3
  | 0, _, _, _, s => (none, s)
  | f + 1, par, dep, k, s =>
    match ns[k]? with
    | none => (none, s)
    | some x =>
      match kids (walkS ns f k (dep + 1)) x.nx (k + 1) ⟨s.P.set k par, s.D.set k dep, s.L⟩ with
      | (none, s) => (none, s)
      | (some r, s) => (some r, ⟨s.P, s.D, s.L.set k (r - 1)⟩)
def rr (l : List Int) : AO := ⟨ints l, 3, 1, true⟩
def upd (H : List AO) (a b c : Nat) (s : W3) : List AO := ((H.set a (rr s.P)).set b (rr s.D)).set c (rr s.L)
section
variable {H : List AO} {a b c j : Nat} {s t : W3} {g : Gm}
theorem upd_len : (upd H a b c s).length = H.length := by simp [upd]
theorem objCells_get {H H' : List AO} {j : Nat} (h : H'[j]? = H[j]?) (v : Nat) : objCells H' j v = objCells H j v := by unfold objCells; rw [h]
/-- Three places. -/
structure P3 (H : List AO) (a b c : Nat) : Prop where
  ab : a < b
  bc : b < c
  lt : c < H.length
theorem upd_a (h : P3 H a b c) : objCells (upd H a b c s) a 1 = ints s.P := by
  have := h.ab; have := h.bc; have := h.lt
  refine objCells_of (o := rr s.P) ?_ rfl
  unfold upd
  rw [List.getElem?_set_ne (by omega), List.getElem?_set_ne (by omega), List.getElem?_set_self (by omega)]
theorem upd_b (h : P3 H a b c) : objCells (upd H a b c s) b 1 = ints s.D := by
  have := h.ab; have := h.bc; have := h.lt
  refine objCells_of (o := rr s.D) ?_ rfl
  unfold upd
  rw [List.getElem?_set_ne (by omega), List.getElem?_set_self (by simp; omega)]
theorem upd_c (h : P3 H a b c) : objCells (upd H a b c s) c 1 = ints s.L := by
  have := h.ab; have := h.bc; have := h.lt
  refine objCells_of (o := rr s.L) ?_ rfl
  unfold upd
  rw [List.getElem?_set_self (by simp; omega)]
theorem upd_o (h1 : j ≠ a) (h2 : j ≠ b) (h3 : j ≠ c) : objCells (upd H a b c s) j 0 = objCells H j 0 := by
  refine objCells_get ?_ 0
  unfold upd
  rw [List.getElem?_set_ne (by omega), List.getElem?_set_ne (by omega), List.getElem?_set_ne (by omega)]
theorem upd_sa (h : P3 H a b c) (f : AO → AO) (l : List Int) (hf : f (rr s.P) = rr l) : Ab.setObj (upd H a b c s) a f = upd H a b c ⟨l, s.D, s.L⟩ := by
  have := h.ab; have := h.bc; have := h.lt
  rw [setObj_some (o := rr s.P), hf]
  · unfold upd
    rw [List.set_comm _ _ (show c ≠ a by omega), List.set_comm _ _ (show b ≠ a by omega), List.set_set]
  · unfold upd
    rw [List.getElem?_set_ne (by omega), List.getElem?_set_ne (by omega), List.getElem?_set_self (by omega)]
theorem upd_sb (h : P3 H a b c) (f : AO → AO) (l : List Int) (hf : f (rr s.D) = rr l) : Ab.setObj (upd H a b c s) b f = upd H a b c ⟨s.P, l, s.L⟩ := by
  have := h.ab; have := h.bc; have := h.lt
  rw [setObj_some (o := rr s.D), hf]
  · unfold upd
    rw [List.set_comm _ _ (show c ≠ b by omega), List.set_set]
  · unfold upd
    rw [List.getElem?_set_ne (by omega), List.getElem?_set_self (by simp; omega)]
theorem upd_sc (h : P3 H a b c) (f : AO → AO) (l : List Int) (hf : f (rr s.L) = rr l) : Ab.setObj (upd H a b c s) c f = upd H a b c ⟨s.P, s.D, l⟩ := by
  have := h.ab; have := h.bc; have := h.lt
  rw [setObj_some (o := rr s.L), hf]
  · unfold upd
    rw [List.set_set]
  · unfold upd
    rw [List.getElem?_set_self (by simp; omega)]
theorem nds_drop {ns : List Nd} {k : Nat} (h : k < ns.length) : nds (ns.drop k) = ns[k].cells ++ nds (ns.drop (k + 1)) := by
  rw [List.drop_eq_getElem_cons h]; rfl
theorem nds_len : ∀ ns : List Nd, (nds ns).length = 6 * ns.length
  | [] => rfl
  | x :: r => by simp [nds, nds_len r, Nd.cells]; omega
end
end Go.Proofs.Ytbfeaikiiamhaaa.Rc

/- H_D5 -/
namespace Go.Proofs.Ytbfeaikiiamhaaa.Rc
open Go.Ab
def resW (ns : List Nd) : Option Nat → SV
  | none => .tup [.val (.slice none 0 0), bl false]
  | some r => .tup [.slc (nds (ns.drop r)) (ns.length - r), bl true]
def W3.ok (s : W3) (n : Nat) : Prop := s.P.length = n ∧ s.D.length = n ∧ s.L.length = n
theorem kids_ok {n : Nat} {w : Nat → W3 → Option Nat × W3} {m : Nat} (hw : ∀ r s, m ≤ r → s.ok n → (w r s).2.ok n ∧ ∀ r', (w r s).1 = some r' → r < r' ∧ r' ≤ n) :
    ∀ (l : List Int) (r : Nat) (s : W3), m ≤ r → r ≤ n → s.ok n → (kids w l r s).2.ok n ∧ ∀ r', (kids w l r s).1 = some r' → r ≤ r' ∧ r' ≤ n
  | [], r, s, hr, hn, hs => ⟨hs, fun r' h => by simp [kids] at h; omega⟩
  | c :: cs, r, s, hr, hn, hs => by
    unfold kids
    by_cases hc : c = r
    · rw [if_pos hc]
      have h := hw r s hr hs
      cases hh : w r s with
      | mk o s1 =>
        rw [hh] at h
        cases o with
        | none => exact ⟨h.1, fun r' h' => by simp at h'⟩
        | some r1 =>
          have h1 := h.2 r1 rfl
          have h2 := kids_ok hw cs r1 s1 (by omega) h1.2 h.1
          exact ⟨h2.1, fun r' h' => by have := h2.2 r' h'; omega⟩
    · rw [if_neg hc]
      exact ⟨hs, fun r' h => by simp at h⟩
theorem walkS_ok {ns : List Nd} : ∀ (f : Nat) (par dep : Int) (k : Nat) (s : W3), s.ok ns.length →
    (walkS ns f par dep k s).2.ok ns.length ∧ ∀ r, (walkS ns f par dep k s).1 = some r → k < r ∧ r ≤ ns.length
  | 0, par, dep, k, s, hs => ⟨hs, fun r h => by simp [walkS] at h⟩
  | f + 1, par, dep, k, s, hs => by
    unfold walkS
    cases hk : ns[k]? with
    | none => exact ⟨hs, fun r h => by simp at h⟩
    | some x =>
      have hlt := getElem?_lt hk
      have h := kids_ok (n := ns.length) (w := walkS ns f k (dep + 1)) (m := 0) (fun r s _ hs => walkS_ok f k (dep + 1) r s hs) x.nx (k + 1) ⟨s.P.set k par, s.D.set k dep, s.L⟩ (by omega) (by omega)
        ⟨by simpa using hs.1, by simpa using hs.2.1, hs.2.2⟩
      simp only
      cases hh : kids (walkS ns f k (dep + 1)) x.nx (k + 1) ⟨s.P.set k par, s.D.set k dep, s.L⟩ with
      | mk o s1 =>
        rw [hh] at h
        cases o with
        | none => exact ⟨h.1, fun r' h' => by simp at h'⟩
        | some r1 =>
          refine ⟨⟨h.1.1, h.1.2.1, by simpa using h.1.2.2⟩, fun r' h' => ?_⟩
          have := h.2 r1 rfl
          simp at h'; omega
section
variable {H : List AO} {a b c j : Nat} {g : Gm}
/-- The walker and its rows. -/
structure Wh (H : List AO) (j : Nat) (g : Gm) (a b c : Nat) : Prop where
  w : Wk H j g (.own a 0 g.ns.length 1 1) (.own b 0 g.ns.length 1 1) (.own c 0 g.ns.length 1 1)
  p : P3 H a b c
  ja : j ≠ a
  jb : j ≠ b
  jc : j ≠ c
  n : g.ns.length ≤ 2000
  nx : ∀ x ∈ g.ns, x.nx.length < 4611686018427387904
theorem Wh.cells (h : Wh H j g a b c) (s : W3) : objCells (upd H a b c s) j 0 = [i64 g.pl, .slc (nds g.ns) g.ns.length, .slc (infs g.is) g.is.length, .own a 0 g.ns.length 1 1, .own b 0 g.ns.length 1 1, .own c 0 g.ns.length 1 1] := by
  rw [upd_o h.ja h.jb h.jc]; exact h.w.o
set_option maxRecDepth 10000 in
theorem loop62 (h : Wh H j g a b c) {x : Nd} {dep : Int} {k : Nat} {w : Nat → W3 → Option Nat × W3} {R : Option Nat × W3} (hd0 : 0 ≤ dep) (hd1 : dep ≤ k) (hk : k < g.ns.length) (hnx : x.nx.length < 4611686018427387904)
    (hok : ∀ r s, k + 1 ≤ r → r ≤ g.ns.length → s.ok g.ns.length → Ok Try.prog 60 [.ptr (.own j 0 0 0 0) 0, i64 k, i64 (dep + 1), .slc (nds (g.ns.drop r)) (g.ns.length - r)] (upd H a b c s) (.ret (resW g.ns (w r s).1)) (upd H a b c (w r s).2))
    (hw : ∀ r s, k + 1 ≤ r → s.ok g.ns.length → (w r s).2.ok g.ns.length ∧ ∀ r', (w r s).1 = some r' → r < r' ∧ r' ≤ g.ns.length)
    {N : Nat} {K : XE → Env → List AO → Prop}
    (hret : R.1 = none → ∀ env, env.get 8 = .val (.slice none 0 0) → env.get 9 = bl false → K .ret env (upd H a b c R.2))
    (hexit : ∀ r', R.1 = some r' → r' ≤ g.ns.length → R.2.ok g.ns.length → ∀ env, env.get 0 = .ptr (.own j 0 0 0 0) 0 → env.get 10 = i64 k → env.get 11 = .slc (nds (g.ns.drop r')) (g.ns.length - r') → K (.exit 0) env (upd H a b c R.2)) :
    ∀ (m i r : Nat) (s : W3) (env : Env), i + m = x.nx.length → k + 1 ≤ r → r ≤ g.ns.length → s.ok g.ns.length → kids w (x.nx.drop i) r s = R →
      env.get 0 = .ptr (.own j 0 0 0 0) 0 → env.get 2 = i64 dep → env.get 10 = i64 k → env.get 11 = .slc (nds (g.ns.drop r)) (g.ns.length - r) → env.get 46 = .slc (ints x.nx) x.nx.length → env.get 47 = i64 x.nx.length → env.get 48 = i64 i →
      LI Try.prog N drawB l60_0 env (upd H a b c s) K := by
  have hn := h.n
  intro m
  induction m with
  | zero =>
    intro i r s env hi hr hrn hs hR h0 h2 h10 h11 h46 h47 h48
    refine li_go hm l60_0.eq_1 ?_
    have e : i = x.nx.length := by omega
    subst e
    simp -implicitDefEqProofs [h47, h48]
    rw [List.drop_length] at hR
    subst hR
    exact hexit r rfl hrn hs _ (by simp [h0]) (by simp [h10]) (by simp [h11])
  | succ m ih =>
    intro i r s env hi hr hrn hs hR h0 h2 h10 h11 h46 h47 h48
    refine li_go hm l60_0.eq_1 ?_
    have hlt : i < x.nx.length := by omega
    have w1 : IntKind.i64.wrap ((g.ns.length : Int) - ((g.ns.length - r : Nat) : Int)) = r := by rw [wrap_id (by omega) (by omega)]; omega
    have w2 : IntKind.i64.wrap (dep + 1) = dep + 1 := wrap_id (by omega) (by omega)
    rw [List.drop_eq_getElem_cons hlt] at hR
    unfold kids at hR
    by_cases hc : x.nx[i] = r
    · rw [if_pos hc] at hR
      simp -implicitDefEqProofs [h0, h2, h10, h11, h46, h47, h48, hlt, h.cells, w1, hc, w2]
      refine ⟨by omega, call_go (hok r s hr hrn hs) ?_⟩
      have hw1 := hw r s hr hs
      cases hh : w r s with
      | mk o s1 =>
        rw [hh] at hw1 hR
        cases o with
        | none =>
          subst hR
          simp -implicitDefEqProofs [resW]
          exact hret rfl _ (by simp) (by simp)
        | some r1 =>
          have h1 := hw1.2 r1 rfl
          simp -implicitDefEqProofs [resW, h48]
          refine ih (i + 1) r1 s1 _ (by omega) (by omega) h1.2 hw1.1 hR ?_ ?_ ?_ ?_ ?_ ?_ ?_
          · simp [h0]
          · simp [h2]
          · simp [h10]
          · simp
          · simp [h46]
          · simp [h47]
          · simp [wrap_suc (show i < 9223372036854775807 by omega)]
    · rw [if_neg hc] at hR
      subst hR
      simp -implicitDefEqProofs [h0, h2, h10, h11, h46, h47, h48, hlt, h.cells, w1, hc]
      refine ⟨by omega, ?_⟩
      exact hret rfl _ (by simp) (by simp)
set_option maxRecDepth 10000 in
theorem ok60 (h : Wh H j g a b c) : ∀ (f : Nat) (par dep : Int) (k : Nat) (s : W3), k ≤ g.ns.length → g.ns.length + 1 ≤ k + f → 0 ≤ dep → dep ≤ k → s.ok g.ns.length →
    Ok Try.prog 60 [.ptr (.own j 0 0 0 0) 0, i64 par, i64 dep, .slc (nds (g.ns.drop k)) (g.ns.length - k)] (upd H a b c s)
      (.ret (resW g.ns (walkS g.ns f par dep k s).1)) (upd H a b c (walkS g.ns f par dep k s).2) := by
  have ab := h.p.ab; have bc := h.p.bc; have lt := h.p.lt
  have hj := h.w.lt
  have hn := h.n
  intro f
  induction f with
  | zero => intro par dep k s h1 h2; omega
  | succ f ih =>
    intro par dep k s hk hf hd0 hd1 hs
    refine ok_fn hm Try.func60 c60 (by simp [upd_len, hj]) fun hcl => ?_
    by_cases hk' : k = g.ns.length
    · subst hk'
      simp -implicitDefEqProofs [i60, r60, walkS, resW]
      exact cv_id
    · have hlt : k < g.ns.length := by omega
      have w1 : IntKind.i64.wrap ((g.ns.length : Int) - ((g.ns.length - k : Nat) : Int)) = k := by rw [wrap_id (by omega) (by omega)]; omega
      have e1 : ∀ (s : W3) (v : Int), k < s.P.length → Ab.setObj (upd H a b c s) a (fun o => { cells := List.take k o.cells ++ i64 v :: List.drop (k + 1) o.cells, ty := o.ty, ver := o.ver, live := o.live }) = upd H a b c ⟨s.P.set k v, s.D, s.L⟩ :=
        fun s v hv => upd_sa h.p _ _ (by simp [rr, ints_set hv])
      have e2 : ∀ (s : W3) (v : Int), k < s.D.length → Ab.setObj (upd H a b c s) b (fun o => { cells := List.take k o.cells ++ i64 v :: List.drop (k + 1) o.cells, ty := o.ty, ver := o.ver, live := o.live }) = upd H a b c ⟨s.P, s.D.set k v, s.L⟩ :=
        fun s v hv => upd_sb h.p _ _ (by simp [rr, ints_set hv])
      have e3 : ∀ (s : W3) (v : Int), k < s.L.length → Ab.setObj (upd H a b c s) c (fun o => { cells := List.take k o.cells ++ i64 v :: List.drop (k + 1) o.cells, ty := o.ty, ver := o.ver, live := o.live }) = upd H a b c ⟨s.P, s.D, s.L.set k v⟩ :=
        fun s v hv => upd_sc h.p _ _ (by simp [rr, ints_set hv])
      have e4 : List.take ((g.ns.length - k - 1) * 6) (nds (g.ns.drop (k + 1))) = nds (g.ns.drop (k + 1)) := List.take_of_length_le (by rw [nds_len]; simp; omega)
      have k1 := hs.1; have k2 := hs.2.1; have k3 := hs.2.2
      rw [nds_drop hlt]
      simp -implicitDefEqProofs [i60, r60, h.cells, upd_len, show ¬ g.ns.length - k = 0 by omega, show ((g.ns.length - k : Nat) : Int) ≠ 0 by omega, w1, upd_a h.p, upd_b h.p, upd_c h.p, e1, e2, k1, k2, k3, hlt, Nd.cells, sl, e4]
      refine ⟨by omega, by omega, by omega, ?_⟩
      have hget : g.ns[k]? = some g.ns[k] := List.getElem?_eq_getElem hlt
      have hs' : W3.ok ⟨s.P.set k par, s.D.set k dep, s.L⟩ g.ns.length := ⟨by simpa using k1, by simpa using k2, k3⟩
      refine loop62 h (x := g.ns[k]) (dep := dep) (k := k) (w := walkS g.ns f k (dep + 1)) (R := kids (walkS g.ns f k (dep + 1)) g.ns[k].nx (k + 1) ⟨s.P.set k par, s.D.set k dep, s.L⟩) hd0 hd1 hlt (h.nx _ (List.getElem_mem hlt))
        (fun r s hr hrn hs => ih k (dep + 1) r s hrn (by omega) (by omega) (by omega) hs) (fun r s _ hs => walkS_ok f k (dep + 1) r s hs) (fun hR env h8 h9 => ?_) (fun r' hR hr' hs1 env h0 h10 h11 => ?_)
        g.ns[k].nx.length 0 (k + 1) _ _ (by omega) (by omega) (by omega) hs' (by simp) (by simp) (by simp) (by simp) (by simp; omega) (by simp) (by simp) (by simp)
      · simp -implicitDefEqProofs [h8, h9]
        unfold walkS
        rw [hget]
        revert hR
        simp only
        generalize kids (walkS g.ns f k (dep + 1)) g.ns[k].nx (k + 1) ⟨s.P.set k par, s.D.set k dep, s.L⟩ = R
        obtain ⟨o, s2⟩ := R
        rintro rfl
        simp [resW]
        exact cv_id
      · have w2 : IntKind.i64.wrap ((g.ns.length : Int) - ((g.ns.length - r' : Nat) : Int)) = r' := by rw [wrap_id (by omega) (by omega)]; omega
        have w3 : IntKind.i64.wrap ((r' : Int) - 1) = (r' : Int) - 1 := wrap_id (by omega) (by omega)
        unfold walkS
        rw [hget]
        revert hR hs1
        simp only
        generalize kids (walkS g.ns f k (dep + 1)) g.ns[k].nx (k + 1) ⟨s.P.set k par, s.D.set k dep, s.L⟩ = R
        obtain ⟨o, s2⟩ := R
        rintro hR hs1
        cases hR
        have k4 := hs1.2.2
        simp only at k4
        simp -implicitDefEqProofs [h0, h10, h11, h.cells, upd_len, w2, w3, upd_c h.p, e3, k4, hlt]
        refine ⟨by omega, ?_⟩
        exact cv_id
end
end Go.Proofs.Ytbfeaikiiamhaaa.Rc

/- H_D6 -/
namespace Go.Proofs.Ytbfeaikiiamhaaa.Rc
open Go.Ab
def maxL (l : List Int) : Int := l.tail.foldl max (l.headD 0)
section
variable {x : SV} {H : List AO} {l : List Int}
theorem loop63 (hx : IsI H x l) (hl : l.length < 4611686018427387904) {N : Nat} {K : XE → Env → List AO → Prop}
    (hexit : ∀ env, env.get 3 = i64 (maxL l) → K (.exit 0) env H) :
    ∀ (n i : Nat) (acc : Int) (env : Env), i + n = l.length → (l.drop i).foldl max acc = maxL l → env.get 0 = x → env.get 3 = i64 acc → env.get 4 = i64 i → LI Try.prog N drawB l61_0 env H K := by
  intro n
  induction n with
  | zero =>
    intro i acc env hi ha h0 h3 h4
    refine li_go hm l61_0.eq_1 ?_
    have e : i = l.length := by omega
    subst e
    simp -implicitDefEqProofs [h0, h3, h4, hx.vd, hx.ug, hx.sl, hx.len]
    rw [List.drop_length] at ha
    exact hexit _ (by simp [h3]; exact congrArg i64 ha)
  | succ n ih =>
    intro i acc env hi ha h0 h3 h4
    refine li_go hm l61_0.eq_1 ?_
    have hlt : i < l.length := by omega
    rw [List.drop_eq_getElem_cons hlt, List.foldl_cons] at ha
    simp -implicitDefEqProofs [h0, h3, h4, hlt, hx.vd, hx.ug, hx.sl, hx.len, hx.v hlt, hx.ok hlt]
    refine ih (i + 1) (max acc l[i]) _ (by omega) ha ?_ ?_ ?_
    · simp [h0]
    · simp
    · simp [wrap_suc (show i < 9223372036854775807 by omega)]
theorem ok61 (hx : IsI H x l) (hl : l.length < 4611686018427387904) (hne : 0 < l.length) : Ok Try.prog 61 [x] H (.ret (i64 (maxL l))) H := by
  refine ok_fn hm Try.func61 c61 (by simp [hx.und]) fun hcl => ?_
  simp -implicitDefEqProofs [i61, r61, hx.vd, hx.ug, hx.sl, hx.len, show ¬ (l.length : Int) < 1 by omega, hx.v hne, hx.ok hne]
  refine ⟨by omega, ?_⟩
  refine loop63 hx hl (fun env h3 => ?_) (l.length - 1) 1 l[0] _ (by omega) ?_ (by simp) (by simp) (by simp)
  · simp -implicitDefEqProofs [h3]
    exact cv_id
  · cases l with
    | nil => simp at hne
    | cons y r => rfl
/-- The first place of v, or -1. -/
def fstAt (v : Int) (l : List Int) : Int := match l.findIdx? (· == v) with | some i => i | none => -1
theorem loop82 (hx : IsI H x l) (hl : l.length < 4611686018427387904) {v : Int} {N : Nat} {K : XE → Env → List AO → Prop}
    (hret : ∀ env (i : Nat), l.findIdx? (· == v) = some i → env.get 4 = i64 i → K .ret env H) (hexit : l.findIdx? (· == v) = none → ∀ env, K (.exit 0) env H) :
    ∀ (n i : Nat) (env : Env), i + n = l.length → (∀ j (h : j < l.length), j < i → ¬ l[j] = v) → env.get 0 = x → env.get 1 = i64 v → env.get 7 = i64 l.length → env.get 8 = i64 i →
      LI Try.prog N drawB l69_0 env H K := by
  intro n
  induction n with
  | zero =>
    intro i env hi hp h0 h1 h7 h8
    refine li_go hm l69_0.eq_1 ?_
    have e : i = l.length := by omega
    simp -implicitDefEqProofs [h7, h8, e]
    refine hexit ?_ _
    rw [List.findIdx?_eq_none_iff]
    intro y hy
    obtain ⟨j, hj, rfl⟩ := List.getElem_of_mem hy
    simpa using hp j hj (by omega)
  | succ n ih =>
    intro i env hi hp h0 h1 h7 h8
    refine li_go hm l69_0.eq_1 ?_
    have hlt : i < l.length := by omega
    by_cases ho : l[i] = v
    · simp -implicitDefEqProofs [h0, h1, h7, h8, hlt, hx.vd, hx.ug, hx.sl, hx.len, hx.v hlt, hx.ok hlt, ho]
      refine hret _ i ?_ (by simp)
      rw [List.findIdx?_eq_some_iff_getElem]
      exact ⟨hlt, by simpa using ho, fun j hj => by simpa using hp j (by omega) hj⟩
    · simp -implicitDefEqProofs [h0, h1, h7, h8, hlt, hx.vd, hx.ug, hx.sl, hx.len, hx.v hlt, hx.ok hlt, show ¬ v = l[i] from fun e => ho e.symm]
      refine ih (i + 1) _ (by omega) ?_ ?_ ?_ ?_ ?_
      rotate_left
      · simp [h0]
      · simp [h1]
      · simp [h7]
      · simp [h8, wrap_suc (show i < 9223372036854775807 by omega)]
      intro j hj hji
      by_cases e : j = i
      · subst e; exact ho
      · exact hp j hj (by omega)
theorem ok69 (hx : IsI H x l) (hl : l.length < 4611686018427387904) (v : Int) : Ok Try.prog 69 [x, i64 v] H (.ret (i64 (fstAt v l))) H := by
  refine ok_fn hm Try.func69 c69 (by simp [hx.und]) fun hcl => ?_
  simp -implicitDefEqProofs [i69, r69, hx.vd, hx.ug, hx.sl, hx.len]
  refine loop82 hx hl (v := v) (fun env i h1 h2 => ?_) (fun h1 env => ?_) l.length 0 _ (by omega) (by omega) (by simp) (by simp) (by simp) (by simp)
  · simp [h2, fstAt, h1]
    exact cv_id
  · simp [fstAt, h1]
    exact cv_id
theorem fstAt_ge {v : Int} {l : List Int} : decide (0 ≤ fstAt v l) = decide (v ∈ l) := by
  rw [Bool.eq_iff_iff, decide_eq_true_iff, decide_eq_true_iff]
  unfold fstAt
  cases h : l.findIdx? (· == v) with
  | some i =>
    simp only [Int.natCast_nonneg, true_iff]
    obtain ⟨hi, h1, h2⟩ := List.findIdx?_eq_some_iff_getElem.1 h
    rw [← eq_of_beq h1]; exact List.getElem_mem hi
  | none =>
    rw [List.findIdx?_eq_none_iff] at h
    have : v ∉ l := fun hv => by simpa using h v hv
    simp [this]
theorem ok66 (hx : IsI H x l) (hl : l.length < 4611686018427387904) (v : Int) : Ok Try.prog 66 [x, i64 v] H (.ret (bl (decide (v ∈ l)))) H := by
  refine ok_fn hm Try.func66 c66 (by simp [hx.und]) fun hcl => ?_
  simp -implicitDefEqProofs [i66, r66, hx.vd, hx.ug, hx.sl, hx.len]
  refine call_go (ok69 hx hl v) ?_
  simp -implicitDefEqProofs
  rw [fstAt_ge]
  exact cv_id
theorem ok73 (n : Int) : Ok Try.prog 73 [i64 n] H (.ret (bl false)) H := by
  refine ok_fn hm Try.func73 c73 (by simp) fun hcl => ?_
  simp -implicitDefEqProofs [i73, r73]
  exact cv_id
theorem ok70 (m n : Int) : Ok Try.prog 70 [i64 m, i64 n] H (.ret (bl (decide (m < n)))) H := by
  refine ok_fn hm Try.func70 c70 (by simp) fun hcl => ?_
  simp -implicitDefEqProofs [i70, r70]
  refine call_go (ok73 m) ?_
  simp -implicitDefEqProofs
  refine callq_off _ _ _ _ ?_
  simp -implicitDefEqProofs
  exact cv_id
def Srt (l : List Int) : Prop := ∀ k, k < l.length - 1 → ¬ l.getD (k + 1) 0 < l.getD k 0
instance (l : List Int) : Decidable (Srt l) := by unfold Srt; infer_instance
theorem srt_iff {l : List Int} : Srt l ↔ ∀ k (h : k + 1 < l.length), ¬ l[k + 1] < l[k] := by
  constructor
  · intro h k hk
    have := h k (by omega)
    simpa only [List.getD_eq_getElem?_getD, List.getElem?_eq_getElem hk, List.getElem?_eq_getElem (show k < l.length by omega), Option.getD_some] using this
  · intro h k hk
    simp only [List.getD_eq_getElem?_getD, List.getElem?_eq_getElem (show k + 1 < l.length by omega), List.getElem?_eq_getElem (show k < l.length by omega), Option.getD_some]
    exact h k (by omega)
theorem loop80 (hx : IsI H x l) (hl : l.length < 4611686018427387904) {N : Nat} {K : XE → Env → List AO → Prop}
    (hret : ¬ Srt l → ∀ env, env.get 2 = bl false → K .ret env H) (hexit : Srt l → ∀ env, K (.exit 0) env H) :
    ∀ (n : Nat) (env : Env), n < l.length → (∀ k (h : k + 1 < l.length), n ≤ k → ¬ l[k + 1] < l[k]) → env.get 0 = x → env.get 3 = i64 n → LI Try.prog N drawB l67_0 env H K := by
  intro n
  induction n with
  | zero =>
    intro env hi hp h0 h3
    refine li_go hm l67_0.eq_1 ?_
    simp -implicitDefEqProofs [h0, h3]
    exact hexit (srt_iff.2 fun k hk => hp k hk (by omega)) _
  | succ n ih =>
    intro env hi hp h0 h3
    refine li_go hm l67_0.eq_1 ?_
    have w1 : IntKind.i64.wrap (n : Int) = n := wrap_nat (by omega)
    have hlt : n < l.length := by omega
    simp -implicitDefEqProofs [h0, h3, hi, hlt, w1, hx.vd, hx.ug, hx.sl, hx.len, hx.v hlt, hx.ok hlt, hx.v hi, hx.ok hi]
    refine ⟨by omega, ?_⟩
    refine callq_go (fun _ => ok70 _ _) ?_
    by_cases hc : l[n + 1] < l[n]
    · simp -implicitDefEqProofs [hc]
      exact hret (fun h => srt_iff.1 h n hi hc) _ (by simp)
    · simp -implicitDefEqProofs [hc, h3, w1]
      refine ih _ (by omega) ?_ ?_ ?_
      rotate_left
      · simp [h0]
      · simp
      intro k hk hnk
      by_cases e : k = n
      · subst e; exact hc
      · exact hp k hk (by omega)
theorem ok67 (hx : IsI H x l) (hl : l.length < 4611686018427387904) : Ok Try.prog 67 [x] H (.ret (bl (decide (Srt l)))) H := by
  refine ok_fn hm Try.func67 c67 (by simp [hx.und]) fun hcl => ?_
  by_cases h0 : l.length = 0
  · have : l = [] := List.eq_nil_of_length_eq_zero h0
    subst this
    simp -implicitDefEqProofs [i67, r67, hx.vd, hx.ug, hx.sl, hx.len, show IntKind.i64.wrap (-1) = -1 by rfl]
    refine li_go hm l67_0.eq_1 ?_
    simp -implicitDefEqProofs [show Srt [] from srt_iff.2 (fun k h => by simp at h)]
    exact cv_id
  · have w1 : IntKind.i64.wrap ((l.length : Int) - 1) = ((l.length - 1 : Nat) : Int) := by rw [wrap_id (by omega) (by omega)]; omega
    simp -implicitDefEqProofs [i67, r67, hx.vd, hx.ug, hx.sl, hx.len, w1]
    refine loop80 hx hl (fun h1 env h2 => ?_) (fun h1 env => ?_) (l.length - 1) _ (by omega) (by omega) (by simp) (by simp)
    · simp -implicitDefEqProofs [h2, h1]
      exact cv_id
    · simp -implicitDefEqProofs [h1]
      exact cv_id
end
end Go.Proofs.Ytbfeaikiiamhaaa.Rc

/- H_D7 -/
namespace Go.Proofs.Ytbfeaikiiamhaaa.Rc
open Go.Ab
/-- The first node of each set, and 1; 0 where there is none. -/
def fst1 : List Nd → Nat → List Int → List Int
  | [], _, z => z
  | x :: r, o, z => if x.k = 2 then (fst1 r (o + 1) z).set x.i.toNat (o + 1) else fst1 r (o + 1) z
@[simp] theorem fst1_len (z : List Int) : ∀ (l : List Nd) (o : Nat), (fst1 l o z).length = z.length
  | [], o => rfl
  | x :: r, o => by unfold fst1; split <;> simp [fst1_len z r (o + 1)]
def ro (l : List Int) : AO := ⟨ints l, 3, 0, true⟩
def Nd.tyBad (g : Gm) (x : Nd) : Prop := x.k = 2 ∧ g.is[x.i.toNat]? ≠ some (x.p, (x.nx.length : Int))
instance (g : Gm) (x : Nd) : Decidable (x.tyBad g) := by unfold Nd.tyBad; infer_instance
def Gm.firsts (g : Gm) : List Int := fst1 g.ns 0 (List.replicate g.is.length 0)
def Gm.setsE (g : Gm) : Int := if ∃ x ∈ g.ns, x.tyBad g then 10 else if 0 ∈ g.firsts then 18 else if Srt g.firsts then 0 else 9
/-- The nodes are well formed, each by itself. -/
structure Gd (g : Gm) : Prop where
  p1 : 1 ≤ g.pl
  p4 : g.pl ≤ 4
  n1 : 1 ≤ g.ns.length
  n : g.ns.length ≤ 2000
  i : g.is.length ≤ 200
  e : ∀ x ∈ g.ns, x.err g = 0
theorem Gd.inf {g : Gm} (h : Gd g) {x : Nd} (hx : x ∈ g.ns) (hk : x.k = 2) : 0 ≤ x.i ∧ x.i < g.is.length := by
  have := h.e x hx
  unfold Nd.err Nd.move at this
  rw [if_neg (by omega), if_neg (by omega), if_pos hk] at this
  split at this
  · omega
  · rw [within1, within1] at this
    split at this
    · split at this <;> omega
    · split at this <;> omega
theorem infs_drop : ∀ {l : List (Int × Int)} {k : Nat} (h : k < l.length), (infs l).drop (2 * k) = i64 l[k].1 :: i64 l[k].2 :: infs (l.drop (k + 1))
  | [], k, h => by simp at h
  | x :: r, 0, h => rfl
  | x :: r, k + 1, h => by
    rw [show 2 * (k + 1) = 2 * k + 2 by omega]
    simp only [infs, List.drop_succ_cons]
    rw [infs_drop (l := r) (k := k) (by simpa using h)]
    simp
theorem nds_drop' : ∀ {l : List Nd} {k : Nat} (h : k < l.length), (nds l).drop (6 * k) = l[k].cells ++ nds (l.drop (k + 1))
  | [], k, h => by simp at h
  | x :: r, 0, h => rfl
  | x :: r, k + 1, h => by
    rw [show 6 * (k + 1) = 6 * k + 6 by omega]
    simp only [nds, Nd.cells, List.drop_succ_cons, List.cons_append, List.nil_append]
    rw [nds_drop' (l := r) (k := k) (by simpa using h)]
    simp [Nd.cells]
theorem infs_len : ∀ l : List (Int × Int), (infs l).length = 2 * l.length
  | [] => rfl
  | x :: r => by simp [infs, infs_len r]; omega
theorem nds_at {l : List Nd} {k : Nat} (h : k < l.length) : (nds l).drop (k * 6) = i64 l[k].k :: i64 l[k].p :: i64 l[k].i :: sl l[k].nx :: sl l[k].ws :: sl l[k].ps :: nds (l.drop (k + 1)) := by
  rw [Nat.mul_comm, nds_drop' h]; rfl
theorem nds_min {l : List Nd} {k : Nat} (h : k < l.length) : min 6 ((nds l).length - k * 6) = 6 := by rw [nds_len]; omega
theorem nds_ge {l : List Nd} {k : Nat} (h : k < l.length) : 6 ≤ (nds l).length - k * 6 := by rw [nds_len]; omega
theorem infs_at {l : List (Int × Int)} {k : Nat} (h : k < l.length) : (infs l).drop (k * 2) = i64 l[k].1 :: i64 l[k].2 :: infs (l.drop (k + 1)) := by
  rw [Nat.mul_comm, infs_drop h]
theorem infs_min {l : List (Int × Int)} {k : Nat} (h : k < l.length) : min 2 ((infs l).length - k * 2) = 2 := by rw [infs_len]; omega
theorem infs_ge {l : List (Int × Int)} {k : Nat} (h : k < l.length) : 2 ≤ (infs l).length - k * 2 := by rw [infs_len]; omega
section
variable {H : List AO} {j : Nat} {g : Gm} {a b c : SV}
set_option maxRecDepth 10000 in
theorem loop64_0 (h : Wk H j g a b c) (hg : Gd g) {N : Nat} {K : XE → Env → List AO → Prop}
    (hexit : ∀ env M, env.get 0 = .ptr (.own j 0 0 0 0) 0 → env.get 3 = .own H.length 0 g.is.length 1 0 → K (.exit 0) env (H ++ ro g.firsts :: M)) :
    ∀ (n : Nat) (env : Env) (M : List AO), n ≤ g.ns.length → env.get 0 = .ptr (.own j 0 0 0 0) 0 → env.get 3 = .own H.length 0 g.is.length 1 0 → env.get 4 = i64 ((n : Int) - 1) →
      LI Try.prog N drawB l62_0 env (H ++ ro (fst1 (g.ns.drop n) n (List.replicate g.is.length 0)) :: M) K := by
  intro n
  induction n with
  | zero =>
    intro env M hi h0 h3 h4
    refine li_go hm l62_0.eq_1 ?_
    simp -implicitDefEqProofs [h0, h3, h4]
    exact hexit _ _ (by simp [h0]) (by simp [h3])
  | succ n ih =>
    intro env M hi h0 h3 h4
    refine li_go hm l62_0.eq_1 ?_
    have hn := hg.n
    have hx : g.ns[n] ∈ g.ns := List.getElem_mem hi
    have w1 : IntKind.i64.wrap (n : Int) = n := wrap_nat (by omega)
    have e : ((n + 1 : Nat) : Int) - 1 = n := by omega
    rw [e] at h4
    have w2 : IntKind.i64.wrap ((n : Int) + 1) = ((n + 1 : Nat) : Int) := wrap_succ (by omega)
    have w3 : IntKind.i64.wrap ((n : Int) - 1) = (n : Int) - 1 := wrap_id (by omega) (by omega)
    by_cases hk : g.ns[n].k = 2
    · have hb := hg.inf hx hk
      have e7 : fst1 (g.ns.drop n) n (List.replicate g.is.length 0) = (fst1 (g.ns.drop (n + 1)) (n + 1) (List.replicate g.is.length 0)).set g.ns[n].i.toNat ((n + 1 : Nat) : Int) := by
        rw [List.drop_eq_getElem_cons hi, fst1, if_pos hk]; rfl
      rw [e7] at ih
      simp -implicitDefEqProofs [h0, h3, h4, (h.app _).o, hi, nds_at hi, nds_min hi, nds_ge hi, hk, sl, ro]
      refine ⟨by omega, by omega, by omega, ?_⟩
      rw [w2, ints_set (by simp; omega), w3]
      refine ih _ _ (by omega) ?_ ?_ ?_
      · simp
      · simp
      · simp
    · have e7 : fst1 (g.ns.drop n) n (List.replicate g.is.length 0) = fst1 (g.ns.drop (n + 1)) (n + 1) (List.replicate g.is.length 0) := by
        rw [List.drop_eq_getElem_cons hi, fst1, if_neg hk]
      rw [e7] at ih
      simp -implicitDefEqProofs [h0, h3, h4, (h.app _).o, hi, nds_at hi, nds_min hi, nds_ge hi, hk, sl]
      refine ⟨by omega, ?_⟩
      rw [w3]
      refine ih _ _ (by omega) ?_ ?_ ?_
      · simp
      · simp
      · simp
set_option maxRecDepth 10000 in
theorem loop64_1 (h : Wk H j g a b c) (hg : Gd g) {N : Nat} {K : XE → Env → List AO → Prop} {r : AO}
    (hret : (∃ x ∈ g.ns, x.tyBad g) → ∀ env M, env.get 2 = i64 10 → K .ret env (H ++ r :: M))
    (hexit : (¬ ∃ x ∈ g.ns, x.tyBad g) → ∀ env M, env.get 3 = .own H.length 0 g.is.length 1 0 → K (.exit 2) env (H ++ r :: M)) :
    ∀ (n i : Nat) (env : Env) (M : List AO), i + n = g.ns.length → (∀ k (h : k < g.ns.length), k < i → ¬ g.ns[k].tyBad g) → env.get 0 = .ptr (.own j 0 0 0 0) 0 → env.get 3 = .own H.length 0 g.is.length 1 0 →
      env.get 47 = .slc (nds g.ns) g.ns.length → env.get 48 = i64 g.ns.length → env.get 49 = i64 i → LI Try.prog N drawB l62_1 env (H ++ r :: M) K := by
  have hn := hg.n
  intro n
  induction n with
  | zero =>
    intro i env M hi hp h0 h3 h47 h48 h49
    refine li_go hm l62_1.eq_1 ?_
    have e : i = g.ns.length := by omega
    subst e
    simp -implicitDefEqProofs [h0, h3, h48, h49]
    refine hexit ?_ _ _ (by simp [h3])
    rintro ⟨x, hx, hb⟩
    obtain ⟨k, hk, rfl⟩ := List.getElem_of_mem hx
    exact hp k hk hk hb
  | succ n ih =>
    intro i env M hi hp h0 h3 h47 h48 h49
    refine li_go hm l62_1.eq_1 ?_
    have hlt : i < g.ns.length := by omega
    have hx : g.ns[i] ∈ g.ns := List.getElem_mem hlt
    have w1 : IntKind.i64.wrap ((i : Int) + 1) = ((i + 1 : Nat) : Int) := wrap_succ (by omega)
    by_cases hk : g.ns[i].k = 2
    · have hb := hg.inf hx hk
      have hb' : g.ns[i].i.toNat < g.is.length := by omega
      simp -implicitDefEqProofs [h0, h3, h47, h48, h49, (h.app _).o, hlt, nds_at hlt, nds_min hlt, nds_ge hlt, infs_at hb', infs_min hb', infs_ge hb', hk, sl]
      refine ⟨by omega, ?_⟩
      have hbad : (¬g.is[g.ns[i].i.toNat].fst = g.ns[i].p ∨ ¬g.is[g.ns[i].i.toNat].snd = (g.ns[i].nx.length : Int)) ↔ g.ns[i].tyBad g := by
        unfold Nd.tyBad
        rw [List.getElem?_eq_getElem hb']
        simp only [hk, true_and, ne_eq, Option.some.injEq]
        rw [← Prod.eta g.is[g.ns[i].i.toNat], Prod.mk.injEq]
        constructor
        · rintro (h | h) ⟨h1, h2⟩
          · exact h h1
          · exact h h2
        · intro h
          by_cases h1 : g.is[g.ns[i].i.toNat].fst = g.ns[i].p
          · exact .inr fun h2 => h ⟨h1, h2⟩
          · exact .inl h1
      split
      · rename_i hc
        exact hret ⟨_, hx, hbad.1 hc⟩ _ _ (by simp)
      · rename_i hc
        rw [w1]
        refine ih (i + 1) _ _ (by omega) ?_ ?_ ?_ ?_ ?_ ?_
        rotate_left
        · simp
        · simp
        · simp
        · simp
        · simp
        intro k hk hki
        by_cases e : k = i
        · subst e; exact fun hb => hc (hbad.2 hb)
        · exact hp k hk (by omega)
    · simp -implicitDefEqProofs [h0, h3, h47, h48, h49, (h.app _).o, hlt, nds_at hlt, nds_min hlt, nds_ge hlt, hk, sl]
      rw [w1]
      refine ih (i + 1) _ _ (by omega) ?_ ?_ ?_ ?_ ?_ ?_
      rotate_left
      · simp
      · simp
      · simp
      · simp
      · simp
      intro k hk' hki
      by_cases e : k = i
      · subst e; exact fun hb => hk hb.1
      · exact hp k hk' (by omega)
set_option maxRecDepth 10000 in
theorem ok62 (h : Wk H j g a b c) (hg : Gd g) : Ok Try.prog 62 [.ptr (.own j 0 0 0 0) 0] H (.ret (i64 g.setsE)) H := by
  have hn := hg.n
  have hi := hg.i
  have w1 : IntKind.i64.wrap ((g.ns.length : Int) - 1) = (g.ns.length : Int) - 1 := wrap_id (by omega) (by omega)
  refine ok_fn hm Try.func62 c62 (by simp [h.lt]) fun hcl => ?_
  simp -implicitDefEqProofs [i62, r62, h.o, (h.app _).o, w1]
  refine ⟨by omega, by omega, ?_⟩
  have e0 : [(⟨List.replicate g.is.length (i64 0), 3, 0, true⟩ : AO)] = ro (fst1 (g.ns.drop g.ns.length) g.ns.length (List.replicate g.is.length 0)) :: [] := by
    simp [ro, fst1, ints]
  rw [e0]
  refine loop64_0 h hg (fun env M h0 h3 => ?_) g.ns.length _ _ (Nat.le_refl _) (by simp) (by simp) (by simp)
  simp -implicitDefEqProofs [h0, h3, (h.app _).o]
  have hF : g.firsts.length = g.is.length := by simp [Gm.firsts]
  refine loop64_1 h hg (fun hb env M h2 => ?_) (fun hb env M h3 => ?_) g.ns.length 0 _ _ (by omega) (by omega) (by simp [h0]) (by simp [h3]) (by simp) (by simp) (by simp)
  · simp -implicitDefEqProofs [h2]
    refine cv_fz 1 hcl rfl ?_
    simp [Gm.setsE, if_pos hb]
  · have hI : ∀ M, IsI (H ++ ro g.firsts :: M) (.own H.length 0 g.is.length 1 0) g.firsts := fun M => by
      have := IsI.own0 H (ro g.firsts :: M) 0 0 g.firsts [] 3 (by simp [ro])
      rwa [hF] at this
    simp -implicitDefEqProofs [h3]
    refine call_go (ok66 (hI M) (by omega) 0) ?_
    by_cases h0 : 0 ∈ g.firsts
    · simp -implicitDefEqProofs [h0]
      refine cv_fz 1 hcl rfl ?_
      simp [Gm.setsE, if_neg hb, h0]
    · simp -implicitDefEqProofs [h0, h3]
      refine call_go (ok67 (hI M) (by omega)) ?_
      by_cases h1 : Srt g.firsts
      · simp -implicitDefEqProofs [h1]
        refine cv_fz 1 hcl rfl ?_
        simp [Gm.setsE, if_neg hb, h0, h1]
      · simp -implicitDefEqProofs [h1]
        refine cv_fz 1 hcl rfl ?_
        simp [Gm.setsE, if_neg hb, h0, h1]
end
end Go.Proofs.Ytbfeaikiiamhaaa.Rc

/- H_D8 -/
namespace Go.Proofs.Ytbfeaikiiamhaaa.Rc
open Go.Ab
def Gm.rng (g : Gm) : Prop := ((((g.pl < 1 ∨ 4 < g.pl) ∨ (g.ns.length : Int) < 1) ∨ 2000 < (g.ns.length : Int)) ∨ 200 < (g.is.length : Int))
instance (g : Gm) : Decidable g.rng := by unfold Gm.rng; infer_instance
def nodesE (g : Gm) : List Nd → Int
  | [] => 0
  | x :: r => if x.err g = 0 then nodesE g r else x.err g
def Gm.w0 (g : Gm) : W3 := ⟨List.replicate g.ns.length 0, List.replicate g.ns.length 0, List.replicate g.ns.length 0⟩
def Gm.wk (g : Gm) : Option Nat × W3 := walkS g.ns (g.ns.length + 1) (-1) 0 0 g.w0
/-- The error before the sets are looked at. -/
def Gm.err0 (g : Gm) : Int := if g.rng then 2 else if nodesE g g.ns ≠ 0 then nodesE g g.ns else if g.wk.1 ≠ some g.ns.length then 9 else if 40 < maxL g.wk.2.D then 5 else 0
/-- The walker that is found. -/
def Gm.wp (g : Gm) : SV := .ptr (.slc [i64 g.pl, .slc (nds g.ns) g.ns.length, .slc (infs g.is) g.is.length, sl g.wk.2.P, sl g.wk.2.D, sl g.wk.2.L] 0) 0
def Gm.walked (g : Gm) : SV := if g.err0 ≠ 0 then .tup [.val (.pointer none), i64 g.err0] else .tup [g.wp, i64 g.setsE]
def gbox (g : Gm) : AO := ⟨[i64 g.pl, .slc (nds g.ns) g.ns.length, .slc (infs g.is) g.is.length], 25, 0, true⟩
def wbox (g : Gm) (a b c : SV) : AO := ⟨[i64 g.pl, .slc (nds g.ns) g.ns.length, .slc (infs g.is) g.is.length, a, b, c], 101, 0, true⟩
abbrev nl : SV := .val (.slice none 0 0)
theorem nds_under (n : Nat) : ∀ l : List Nd, SV.underL n (nds l) = true
  | [] => rfl
  | x :: r => by rw [nds, SV.underL_append, nds_under n r]; simp [Nd.cells, sl]
theorem infs_under (n : Nat) : ∀ l : List (Int × Int), SV.underL n (infs l) = true
  | [] => rfl
  | x :: r => by simp [infs, infs_under n r]
theorem fz_mapU {n : Nat} {ks : List Nat} {L : List AO} {d : Nat} {l : List SV} (h : SV.underL n l = true) : l.map (SV.fz n ks L (d + 1)) = l := by
  rw [SV.underL_iff] at h
  conv => rhs; rw [← List.map_id l]
  exact List.map_congr_left fun x hx => fz_under (h x hx)
@[simp] theorem fz_nds (n : Nat) (ks : List Nat) (L : List AO) (d : Nat) (l : List Nd) : (nds l).map (SV.fz n ks L (d + 1)) = nds l := fz_mapU (nds_under n l)
@[simp] theorem fz_infs (n : Nat) (ks : List Nat) (L : List AO) (d : Nat) (l : List (Int × Int)) : (infs l).map (SV.fz n ks L (d + 1)) = infs l := fz_mapU (infs_under n l)
section
variable {H : List AO} {g : Gm}
theorem wk_box {M : List AO} {a b c : SV} : Wk (H ++ gbox g :: wbox g a b c :: M) (H.length + 1) g a b c := ⟨by simp [wbox], by simp⟩
set_option maxRecDepth 10000 in
theorem loop38_0 (h1 : 1 ≤ g.pl) (h4 : g.pl ≤ 4) (h5 : g.is.length ≤ 200) (hn : g.ns.length ≤ 2000) {N : Nat} {K : XE → Env → List AO → Prop}
    (hret : nodesE g g.ns ≠ 0 → ∀ env M, env.get 2 = .val (.pointer none) → env.get 3 = i64 (nodesE g g.ns) → K .ret env (H ++ gbox g :: wbox g nl nl nl :: M))
    (hexit : (∀ x ∈ g.ns, x.err g = 0) → nodesE g g.ns = 0 → ∀ env M, env.get 1 = .ptr (.own H.length 0 0 0 0) 0 → env.get 4 = .ptr (.own (H.length + 1) 0 0 0 0) 0 → K (.exit 0) env (H ++ gbox g :: wbox g nl nl nl :: M)) :
    ∀ (n i : Nat) (env : Env) (M : List AO), i + n = g.ns.length → (∀ k (h : k < g.ns.length), k < i → g.ns[k].err g = 0) → nodesE g (g.ns.drop i) = nodesE g g.ns →
      env.get 1 = .ptr (.own H.length 0 0 0 0) 0 → env.get 4 = .ptr (.own (H.length + 1) 0 0 0 0) 0 → env.get 40 = .slc (nds g.ns) g.ns.length → env.get 41 = i64 g.ns.length → env.get 42 = i64 i →
      LI Try.prog N drawB l49_0 env (H ++ gbox g :: wbox g nl nl nl :: M) K := by
  intro n
  induction n with
  | zero =>
    intro i env M hi hp hE h1 h4 h40 h41 h42
    refine li_go hm l49_0.eq_1 ?_
    have e : i = g.ns.length := by omega
    subst e
    simp -implicitDefEqProofs [h41, h42]
    rw [List.drop_length] at hE
    refine hexit ?_ hE.symm _ _ (by simp [h1]) (by simp [h4])
    intro x hx
    obtain ⟨k, hk, rfl⟩ := List.getElem_of_mem hx
    exact hp k hk hk
  | succ n ih =>
    intro i env M hi hp hE e1 e4 h40 h41 h42
    refine li_go hm l49_0.eq_1 ?_
    have hlt : i < g.ns.length := by omega
    have w1 : IntKind.i64.wrap ((i : Int) + 1) = ((i + 1 : Nat) : Int) := wrap_succ (by omega)
    rw [List.drop_eq_getElem_cons hlt, nodesE] at hE
    simp -implicitDefEqProofs [e1, e4, h40, h41, h42, hlt, nds_at hlt, nds_min hlt, nds_ge hlt, sl]
    refine call_go (ok59 (x := g.ns[i]) (wk_box (g := g) (a := nl) (b := nl) (c := nl)) h1 h4 h5) ?_
    by_cases hc : g.ns[i].err g = 0
    · rw [if_pos hc] at hE
      simp -implicitDefEqProofs [hc, h42]
      rw [w1]
      refine ih (i + 1) _ _ (by omega) ?_ hE ?_ ?_ ?_ ?_ ?_
      rotate_left
      · simp [e1]
      · simp [e4]
      · simp [h40]
      · simp [h41]
      · simp
      intro k hk hki
      by_cases e : k = i
      · subst e; exact hc
      · exact hp k hk (by omega)
    · rw [if_neg hc] at hE
      simp -implicitDefEqProofs [hc]
      refine hret ?_ _ _ (by simp) (by simp [hE])
      rw [← hE]; exact hc
theorem nx_of {x : Nd} (h : x.err g = 0) : x.nx.length ≤ 60 := by
  unfold Nd.err at h
  split at h
  · omega
  · split at h
    · unfold Nd.chance at h
      split at h <;> omega
    · split at h
      · unfold Nd.move at h
        split at h <;> omega
      · unfold Nd.end at h
        split at h <;> omega
theorem upd_rows {M : List AO} {A B x y z : AO} {s : W3} :
    upd (H ++ A :: B :: (M ++ [x, y, z])) (H.length + (M.length + 1 + 1)) (H.length + (M.length + 1 + 1 + 1)) (H.length + (M.length + 1 + 1 + 1 + 1)) s = H ++ A :: B :: (M ++ [rr s.P, rr s.D, rr s.L]) := by
  simp [upd]
set_option maxRecDepth 10000 in
theorem ok49 : Ok Try.prog 49 [.agg g.cells] H (.ret g.walked) H := by
  refine ok_fn hm Try.func49 c49 (by simp [Gm.cells]) fun hcl => ?_
  simp -implicitDefEqProofs [i49, r49, Gm.cells]
  have hR : g.rng = (((((g.pl < 1 ∨ 4 < g.pl) ∨ (g.ns.length : Int) < 1) ∨ 2000 < (g.ns.length : Int)) ∨ 200 < (g.is.length : Int))) := rfl
  split
  · rename_i hc
    refine cv_fz 2 hcl rfl ?_
    simp [Gm.walked, Gm.err0, hR, hc]
  · rename_i hc
    refine ⟨rfl, ?_⟩
    have g1 : 1 ≤ g.pl := by omega
    have g4 : g.pl ≤ 4 := by omega
    have gi : g.is.length ≤ 200 := by omega
    have gn : g.ns.length ≤ 2000 := by omega
    have gn1 : 1 ≤ g.ns.length := by omega
    refine loop38_0 (g := g) g1 g4 gi gn (fun hE env M e2 e3 => ?_) (fun hE hE' env M e1 e4 => ?_) g.ns.length 0 _ [] (by omega) (by omega) (by simp) (by simp) (by simp) (by simp) (by simp) (by simp)
    · simp -implicitDefEqProofs [e2, e3]
      refine cv_fz 2 hcl rfl ?_
      simp [Gm.walked, Gm.err0, hR, hc, hE]
    · have hG : Gd g := ⟨g1, g4, gn1, gn, gi, hE⟩
      simp -implicitDefEqProofs [e1, e4, gbox, wbox]
      refine ⟨by omega, by omega, by omega, by omega, by omega, by omega, ?_⟩
      have ez : (⟨List.replicate g.ns.length (i64 0), 3, 1, true⟩ : AO) = rr (List.replicate g.ns.length 0) := by simp [rr, ints]
      rw [ez]
      generalize hHx : H ++ (⟨[i64 g.pl, SV.slc (nds g.ns) g.ns.length, SV.slc (infs g.is) g.is.length], 25, 0, true⟩ : AO) :: (⟨[i64 g.pl, SV.slc (nds g.ns) g.ns.length, SV.slc (infs g.is) g.is.length,
        SV.own (H.length + (M.length + 1 + 1)) 0 g.ns.length 1 1, SV.own (H.length + (M.length + 1 + 1 + 1)) 0 g.ns.length 1 1, SV.own (H.length + (M.length + 1 + 1 + 1 + 1)) 0 g.ns.length 1 1], 101, 0, true⟩ : AO) ::
          (M ++ [rr (List.replicate g.ns.length 0), rr (List.replicate g.ns.length 0), rr (List.replicate g.ns.length 0)]) = Hx
      have hup : ∀ s, upd Hx (H.length + (M.length + 1 + 1)) (H.length + (M.length + 1 + 1 + 1)) (H.length + (M.length + 1 + 1 + 1 + 1)) s =
          H ++ gbox g :: wbox g (.own (H.length + (M.length + 1 + 1)) 0 g.ns.length 1 1) (.own (H.length + (M.length + 1 + 1 + 1)) 0 g.ns.length 1 1) (.own (H.length + (M.length + 1 + 1 + 1 + 1)) 0 g.ns.length 1 1) :: (M ++ [rr s.P, rr s.D, rr s.L]) :=
        fun s => by rw [← hHx]; exact upd_rows
      have h0 : upd Hx (H.length + (M.length + 1 + 1)) (H.length + (M.length + 1 + 1 + 1)) (H.length + (M.length + 1 + 1 + 1 + 1)) g.w0 = Hx := by rw [hup, ← hHx]; rfl
      have hWh : Wh Hx (H.length + 1) g (H.length + (M.length + 1 + 1)) (H.length + (M.length + 1 + 1 + 1)) (H.length + (M.length + 1 + 1 + 1 + 1)) := by
        refine ⟨⟨by rw [← hHx]; simp, by rw [← hHx]; simp⟩, ⟨by omega, by omega, by rw [← hHx]; simp⟩, by omega, by omega, by omega, gn, fun x hx => ?_⟩
        have := nx_of (hE x hx); omega
      have ok := ok60 hWh (g.ns.length + 1) (-1) 0 0 g.w0 (by omega) (by omega) (by omega) (by omega) ⟨by simp [Gm.w0], by simp [Gm.w0], by simp [Gm.w0]⟩
      have hwok := walkS_ok (ns := g.ns) (g.ns.length + 1) (-1) 0 0 g.w0 ⟨by simp [Gm.w0], by simp [Gm.w0], by simp [Gm.w0]⟩
      rw [h0] at ok
      refine call_go ok ?_
      have hW : walkS g.ns (g.ns.length + 1) (-1) 0 0 g.w0 = g.wk := rfl
      rw [hW] at hwok ⊢
      have hwp : g.walked = if (if g.wk.1 ≠ some g.ns.length then (9 : Int) else if 40 < maxL g.wk.2.D then 5 else 0) ≠ 0 then .tup [.val (.pointer none), i64 (if g.wk.1 ≠ some g.ns.length then (9 : Int) else if 40 < maxL g.wk.2.D then 5 else 0)] else .tup [g.wp, i64 g.setsE] := by
        unfold Gm.walked Gm.err0
        rw [if_neg (show ¬ g.rng by rw [hR]; exact hc), if_neg (show ¬ nodesE g g.ns ≠ 0 by simpa using hE')]
      cases hk : g.wk.1 with
      | none =>
        rw [hk] at hwp
        simp -implicitDefEqProofs [resW]
        rw [hup]
        refine cv_fz 2 hcl rfl ?_
        rw [hwp]; simp
      | some r =>
        rw [hk] at hwp hwok
        have hr := hwok.2 r rfl
        by_cases hrn : r = g.ns.length
        · subst hrn
          simp -implicitDefEqProofs [resW, nds, e1, e4, hWh.cells]
          have hI : IsI (upd Hx (H.length + (M.length + 1 + 1)) (H.length + (M.length + 1 + 1 + 1)) (H.length + (M.length + 1 + 1 + 1 + 1)) g.wk.2) (.own (H.length + (M.length + 1 + 1 + 1)) 0 g.ns.length 1 1) g.wk.2.D := by
            rw [hup]
            have := IsI.own0 H (gbox g :: wbox g (.own (H.length + (M.length + 1 + 1)) 0 g.ns.length 1 1) (.own (H.length + (M.length + 1 + 1 + 1)) 0 g.ns.length 1 1) (.own (H.length + (M.length + 1 + 1 + 1 + 1)) 0 g.ns.length 1 1) :: (M ++ [rr g.wk.2.P, rr g.wk.2.D, rr g.wk.2.L])) (M.length + 1 + 1 + 1) 1 g.wk.2.D [] 3 (by simp [rr])
            rwa [hwok.1.2.1] at this
          refine call_go (ok61 hI (by rw [hwok.1.2.1]; omega) (by rw [hwok.1.2.1]; omega)) ?_
          by_cases hm40 : 40 < maxL g.wk.2.D
          · simp -implicitDefEqProofs [hm40]
            rw [hup]
            refine cv_fz 2 hcl rfl ?_
            rw [hwp]; simp [hm40]
          · simp -implicitDefEqProofs [hm40, e1, e4]
            have hWk : Wk (upd Hx (H.length + (M.length + 1 + 1)) (H.length + (M.length + 1 + 1 + 1)) (H.length + (M.length + 1 + 1 + 1 + 1)) g.wk.2) (H.length + 1) g _ _ _ := ⟨hWh.cells _, by rw [upd_len]; exact hWh.w.lt⟩
            refine call_go (ok62 hWk hG) ?_
            simp -implicitDefEqProofs
            rw [hup]
            refine cv_fz 4 hcl rfl ?_
            rw [hwp]
            have k1 := hwok.1.1
            have k2 := hwok.1.2.1
            have k3 := hwok.1.2.2
            simp [hm40, gbox, wbox, rr, Gm.wp, sl, k1, k2, k3]
        · simp -implicitDefEqProofs [resW, show ¬ g.ns.length - r = 0 by omega, show 0 < g.ns.length - r by omega]
          rw [hup]
          refine cv_fz 2 hcl rfl ?_
          rw [hwp]; simp [hrn]
end
end Go.Proofs.Ytbfeaikiiamhaaa.Rc

/- H_D9 -/
namespace Go.Proofs.Ytbfeaikiiamhaaa.Rc
open Go.Ab
def kidsR (w : Nat → Int → Option Nat × Int) : List Int → Nat → Int → Option Nat × Int
  | [], r, m => (some r, m)
  | c :: cs, r, m => if c = r then (match w r m with | (none, m) => (none, m) | (some r, m) => kidsR w cs r m) else (none, m)
def walkR (ns : List Nd) : Nat → Int → Nat → Int → Option Nat × Int
  | 0, _, _, m => (none, m)
  | f + 1, dep, k, m =>
    match ns[k]? with
    | none => (none, m)
    | some x => kidsR (walkR ns f (dep + 1)) x.nx (k + 1) (max m dep)
theorem kidsR_ok {n : Nat} {w : Nat → Int → Option Nat × Int} (hw : ∀ r m r', (w r m).1 = some r' → r < r' ∧ r' ≤ n) :
    ∀ (l : List Int) (r : Nat) (m : Int), r ≤ n → ∀ r', (kidsR w l r m).1 = some r' → r ≤ r' ∧ r' ≤ n
  | [], r, m, hn => fun r' h => by simp [kidsR] at h; omega
  | c :: cs, r, m, hn => by
    unfold kidsR
    by_cases hc : c = r
    · rw [if_pos hc]
      have h := hw r m
      cases hh : w r m with
      | mk o m1 =>
        rw [hh] at h
        cases o with
        | none => exact fun r' h' => by simp at h'
        | some r1 =>
          have h1 := h r1 rfl
          have h2 := kidsR_ok hw cs r1 m1 h1.2
          exact fun r' h' => by have := h2 r' h'; omega
    · rw [if_neg hc]
      exact fun r' h => by simp at h
theorem walkR_ok {ns : List Nd} : ∀ (f : Nat) (dep : Int) (k : Nat) (m : Int) (r : Nat), (walkR ns f dep k m).1 = some r → k < r ∧ r ≤ ns.length
  | 0, dep, k, m => fun r h => by simp [walkR] at h
  | f + 1, dep, k, m => by
    unfold walkR
    cases hk : ns[k]? with
    | none => exact fun r h => by simp at h
    | some x =>
      have hlt := getElem?_lt hk
      intro r h
      have := kidsR_ok (n := ns.length) (w := walkR ns f (dep + 1)) (fun r m r' h => walkR_ok f (dep + 1) r m r' h) x.nx (k + 1) (max m dep) (by omega) r h
      omega
def upq (H : List AO) (q : Nat) (m : Int) : List AO := H.set q ⟨[i64 m], 3, 0, true⟩
def resR : Option Nat → Int
  | none => -1
  | some r => r
section
variable {H L : List AO} {g : Gm} {q j : Nat} {m m' : Int}
theorem upq_len : (upq H q m).length = H.length := by simp [upq]
theorem upq_app (h : q < H.length) : upq (H ++ L) q m = upq H q m ++ L := by
  unfold upq; rw [List.set_append_left _ _ h]
theorem upq_get (h : q < H.length) : (upq H q m)[q]? = some ⟨[i64 m], 3, 0, true⟩ := by unfold upq; rw [List.getElem?_set_self h]
theorem upq_c (h : q < H.length) : objCells (upq H q m) q 0 = [i64 m] := objCells_of (o := ⟨[i64 m], 3, 0, true⟩) (upq_get h) rfl
theorem upq_cA (h : q < H.length) : objCells (upq H q m ++ L) q 0 = [i64 m] := by rw [objCells_app L (by rw [upq_len]; exact h), upq_c h]
theorem upq_sA (h : q < H.length) (f : AO → AO) (hf : f ⟨[i64 m], 3, 0, true⟩ = ⟨[i64 m'], 3, 0, true⟩) : Ab.setObj (upq H q m ++ L) q f = upq H q m' ++ L := by
  rw [setObj_some (o := ⟨[i64 m], 3, 0, true⟩) (by rw [List.getElem?_append_left (by rw [upq_len]; exact h)]; exact upq_get h), hf]
  unfold upq
  rw [List.set_append_left _ _ (by simpa using h), List.set_set]
theorem upq_closed (h : closed (upq H q m)) : closed (upq H q m') := by
  intro i o ho s hs
  by_cases e : i = q
  · subst e
    unfold upq at ho
    rw [List.getElem?_set] at ho
    simp only [if_true] at ho
    split at ho
    · cases ho
      simp only [List.mem_singleton] at hs
      subst hs; rfl
    · cases ho
  · unfold upq at ho
    rw [List.getElem?_set_ne (fun h => e h.symm)] at ho
    have := h i o (by unfold upq; rw [List.getElem?_set_ne (fun h => e h.symm)]; exact ho) s hs
    simpa [upq_len] using this
theorem nds_get {l : List Nd} {k t : Nat} (h : k < l.length) (ht : t < 6) : (nds l)[k * 6 + t]? = l[k].cells[t]? := by
  rw [← List.getElem?_drop, Nat.mul_comm, nds_drop' h, List.getElem?_append_left (by simpa [Nd.cells] using ht)]
theorem nds_g3 {l : List Nd} {k : Nat} (h : k < l.length) : (nds l)[k * 6 + 3]? = some (.slc (ints l[k].nx) l[k].nx.length) := by rw [nds_get h (by omega)]; rfl
set_option maxRecDepth 10000 in
theorem loop40 (hq : q < H.length) {x : Nd} {dep : Int} {k : Nat} {w : Nat → Int → Option Nat × Int} {R : Option Nat × Int} (hd0 : 0 ≤ dep) (hd1 : dep ≤ k) (hk : k < g.ns.length) (hx : x = g.ns[k]) (hn : g.ns.length ≤ 2000) (hnx : x.nx.length < 4611686018427387904)
    (hok : ∀ r m, k + 1 ≤ r → r ≤ g.ns.length → Ok Try.prog 52 [.agg g.cells, i64 r, i64 (dep + 1), .ptr (.own q 0 0 0 0) 0] (upq H q m ++ [gbox g]) (.ret (i64 (resR (w r m).1))) (upq H q (w r m).2 ++ [gbox g]))
    (hw : ∀ r m r', (w r m).1 = some r' → r < r' ∧ r' ≤ g.ns.length)
    {N : Nat} {K : XE → Env → List AO → Prop}
    (hret : R.1 = none → ∀ env, env.get 8 = i64 (-1) → K .ret env (upq H q R.2 ++ [gbox g]))
    (hexit : ∀ r', R.1 = some r' → ∀ env, env.get 9 = i64 r' → K (.exit 0) env (upq H q R.2 ++ [gbox g])) :
    ∀ (n i r : Nat) (m : Int) (env : Env), i + n = x.nx.length → k + 1 ≤ r → r ≤ g.ns.length → kidsR w (x.nx.drop i) r m = R →
      env.get 1 = i64 k → env.get 2 = i64 dep → env.get 3 = .ptr (.own q 0 0 0 0) 0 → env.get 4 = .ptr (.own H.length 0 0 0 0) 0 → env.get 9 = i64 r → env.get 10 = i64 i →
      LI Try.prog N drawB l52_0 env (upq H q m ++ [gbox g]) K := by
  subst hx
  have hgb : ∀ m, objCells (upq H q m ++ [gbox g]) H.length 0 = [i64 g.pl, .slc (nds g.ns) g.ns.length, .slc (infs g.is) g.is.length] := fun m => by
    have := objCells_new0 (upq H q m) [gbox g] 0
    rw [upq_len] at this
    rw [this]; rfl
  intro n
  induction n with
  | zero =>
    intro i r m env hi hr hrn hR h1 h2 h3 h4 h9 h10
    refine li_go hm l52_0.eq_1 ?_
    have e : i = g.ns[k].nx.length := by omega
    subst e
    simp -implicitDefEqProofs [h1, h4, h9, h10, hgb, hk, nds_g3 hk, nds_len]
    refine ⟨by omega, ?_⟩
    rw [List.drop_length] at hR
    subst hR
    exact hexit r rfl _ (by simp)
  | succ n ih =>
    intro i r m env hi hr hrn hR h1 h2 h3 h4 h9 h10
    refine li_go hm l52_0.eq_1 ?_
    have hlt : i < g.ns[k].nx.length := by omega
    have w2 : IntKind.i64.wrap (dep + 1) = dep + 1 := wrap_id (by omega) (by omega)
    rw [List.drop_eq_getElem_cons hlt] at hR
    unfold kidsR at hR
    by_cases hc : g.ns[k].nx[i] = r
    · rw [if_pos hc] at hR
      simp -implicitDefEqProofs [h1, h2, h3, h4, h9, h10, hlt, hgb, hk, nds_g3 hk, nds_len, hc, w2]
      refine ⟨by omega, by omega, call_go (hok r m hr hrn) ?_⟩
      have hw1 := hw r m
      cases hh : w r m with
      | mk o m1 =>
        rw [hh] at hw1 hR
        cases o with
        | none =>
          subst hR
          simp -implicitDefEqProofs [resR]
          exact hret rfl _ (by simp)
        | some r1 =>
          have h1' := hw1 r1 rfl
          simp -implicitDefEqProofs [resR, h10]
          refine ih (i + 1) r1 m1 _ (by omega) (by omega) h1'.2 hR ?_ ?_ ?_ ?_ ?_ ?_
          · simp [h1]
          · simp [h2]
          · simp [h3]
          · simp [h4]
          · simp
          · simp [wrap_suc (show i < 9223372036854775807 by omega)]
    · rw [if_neg hc] at hR
      subst hR
      simp -implicitDefEqProofs [h1, h2, h3, h4, h9, h10, hlt, hgb, hk, nds_g3 hk, nds_len, hc]
      refine ⟨by omega, by omega, ?_⟩
      exact hret rfl _ (by simp)
set_option maxRecDepth 10000 in
theorem ok52 (hn : g.ns.length ≤ 2000) (hnx : ∀ x ∈ g.ns, x.nx.length < 4611686018427387904) : ∀ (f : Nat) (H : List AO) (dep : Int) (k : Nat) (m : Int), q < H.length → k ≤ g.ns.length → g.ns.length + 1 ≤ k + f → 0 ≤ dep → dep ≤ k →
    Ok Try.prog 52 [.agg g.cells, i64 k, i64 dep, .ptr (.own q 0 0 0 0) 0] (upq H q m) (.ret (i64 (resR (walkR g.ns f dep k m).1))) (upq H q (walkR g.ns f dep k m).2) := by
  intro f
  induction f with
  | zero => intro H dep k m hq h1 h2; omega
  | succ f ih =>
    intro H dep k m hq hk hf hd0 hd1
    refine ok_fn hm Try.func52 c52 (by simp [Gm.cells]) fun hcl => ?_
    have hw : ∀ m, objCells (upq H q m ++ [gbox g]) q 0 = [i64 m] := fun m => upq_cA hq
    by_cases hk' : k = g.ns.length
    · subst hk'
      have e : walkR g.ns (f + 1) dep g.ns.length m = (none, m) := by simp [walkR]
      rw [e]
      simp -implicitDefEqProofs [i52, r52, Gm.cells]
      refine cv_fz 1 hcl rfl ?_
      simp [resR]
    · have hlt : k < g.ns.length := by omega
      have w1 : IntKind.i64.wrap ((k : Int) + 1) = ((k + 1 : Nat) : Int) := wrap_succ (by omega)
      simp -implicitDefEqProofs [i52, r52, Gm.cells, hlt, upq_cA hq, show ¬ g.ns.length ≤ k by omega, w1]
      have hget : g.ns[k]? = some g.ns[k] := List.getElem?_eq_getElem hlt
      have e : walkR g.ns (f + 1) dep k m = kidsR (walkR g.ns f (dep + 1)) g.ns[k].nx (k + 1) (max m dep) := by rw [walkR, hget]
      rw [e, upq_sA (m' := max m dep) hq _ (by rfl)]
      refine loop40 (q := q) (g := g) hq (x := g.ns[k]) (dep := dep) (k := k) (w := walkR g.ns f (dep + 1)) (R := kidsR (walkR g.ns f (dep + 1)) g.ns[k].nx (k + 1) (max m dep)) hd0 hd1 hlt rfl hn (hnx _ (List.getElem_mem hlt))
        (fun r m hr hrn => ?_) (fun r m r' h => walkR_ok f (dep + 1) r m r' h) (fun hR env h8 => ?_) (fun r' hR env h9 => ?_)
        g.ns[k].nx.length 0 (k + 1) (max m dep) _ (by omega) (by omega) (by omega) (by simp) (by simp) (by simp) (by simp) (by simp [upq_len]) (by simp) (by simp)
      · rw [← upq_app hq, ← upq_app hq]
        exact ih (H ++ [gbox g]) (dep + 1) r m (by simp; omega) hrn (by omega) (by omega) (by omega)
      · simp -implicitDefEqProofs [h8]
        rw [hR]
        exact cv_fz 1 (upq_closed hcl) (by rw [upq_len, upq_len]) (by simp [resR])
      · simp -implicitDefEqProofs [h9]
        rw [hR]
        exact cv_fz 1 (upq_closed hcl) (by rw [upq_len, upq_len]) (by simp [resR])
end
end Go.Proofs.Ytbfeaikiiamhaaa.Rc

/- H_D10 -/
namespace Go.Proofs.Ytbfeaikiiamhaaa.Rc
open Go.Ab
def slN (l : List Int) : SV := if l = [] then nl else sl l
/-- Rows of our own, one for each list that is not empty. -/
structure Fam (b : Nat) (L : List AO) (A : List (List Int)) (cs : List SV) : Prop where
  len : cs.length = A.length
  at' : ∀ s (h : s < A.length), (A[s] = [] ∧ cs[s]? = some nl) ∨ (A[s] ≠ [] ∧ ∃ p, cs[s]? = some (.own (b + p) 0 A[s].length 1 A[s].length) ∧ L[p]? = some ⟨ints A[s], 3, A[s].length, true⟩)
  inj : ∀ (s t p m n v w : Nat), s ≠ t → cs[s]? = some (.own (b + p) 0 m 1 v) → cs[t]? = some (.own (b + p) 0 n 1 w) → False
section
variable {b : Nat} {L L' : List AO} {A : List (List Int)} {cs : List SV} {s : Nat} {i : Int}
theorem Fam.zero (b : Nat) (L : List AO) (n : Nat) : Fam b L (List.replicate n []) (List.replicate n nl) := by
  refine ⟨by simp, fun s h => .inl ?_, fun s t p m n v w hst h1 h2 => ?_⟩
  · simp at h; simp [h]
  · rw [List.getElem?_replicate] at h1
    split at h1 <;> cases h1
theorem Fam.mono (h : Fam b L A cs) (L' : List AO) : Fam b (L ++ L') A cs := by
  refine ⟨h.len, fun s hs => ?_, h.inj⟩
  rcases h.at' s hs with h1 | ⟨h1, p, h2, h3⟩
  · exact .inl h1
  · exact .inr ⟨h1, p, h2, by rw [List.getElem?_append_left (getElem?_lt h3)]; exact h3⟩
theorem Fam.new (h : Fam b L A cs) (hs : s < A.length) (he : A[s] = []) : Fam b (L ++ [⟨ints [i], 3, 1, true⟩]) (A.set s [i]) (cs.set s (.own (b + L.length) 0 1 1 1)) := by
  have hl := h.len
  have hnew : ∀ t (n w : Nat), t < A.length → cs[t]? = some (.own (b + L.length) 0 n 1 w) → False := by
    intro t n w ht hc
    rcases h.at' t ht with ⟨_, h1⟩ | ⟨_, p, h2, h3⟩
    · rw [h1] at hc; cases hc
    · rw [h2] at hc
      have hp := getElem?_lt h3
      simp only [Option.some.injEq, SV.own.injEq] at hc
      omega
  refine ⟨by simp [hl], fun t ht => ?_, fun t u p m n v w htu h1 h2 => ?_⟩
  · by_cases e : s = t
    · subst e
      refine .inr ⟨by simp, L.length, ?_, by simp⟩
      rw [List.getElem?_set_self (by omega)]; simp
    · have ht' : t < A.length := by simpa using ht
      rw [List.getElem?_set_ne e]
      simp only [List.getElem_set_ne e]
      rcases h.at' t ht' with h1 | ⟨h1, p, h2, h3⟩
      · exact .inl h1
      · exact .inr ⟨h1, p, h2, by rw [List.getElem?_append_left (getElem?_lt h3)]; exact h3⟩
  · by_cases e : s = t
    · subst e
      rw [List.getElem?_set_self (by omega)] at h1
      rw [List.getElem?_set_ne htu] at h2
      have hu : u < A.length := by have := getElem?_lt h2; omega
      simp only [Option.some.injEq, SV.own.injEq] at h1
      have : p = L.length := by omega
      subst this
      exact hnew u _ _ hu h2
    · rw [List.getElem?_set_ne e] at h1
      by_cases e' : s = u
      · subst e'
        rw [List.getElem?_set_self (by omega)] at h2
        have ht : t < A.length := by have := getElem?_lt h1; omega
        simp only [Option.some.injEq, SV.own.injEq] at h2
        have : p = L.length := by omega
        subst this
        exact hnew t _ _ ht h1
      · rw [List.getElem?_set_ne e'] at h2
        exact h.inj t u p m n v w htu h1 h2
theorem Fam.grow (h : Fam b L A cs) (hs : s < A.length) {p : Nat} (hc : cs[s]? = some (.own (b + p) 0 A[s].length 1 A[s].length)) (hp : L[p]? = some ⟨ints A[s], 3, A[s].length, true⟩) :
    Fam b (L.set p ⟨ints (A[s] ++ [i]), 3, A[s].length + 1, true⟩) (A.set s (A[s] ++ [i])) (cs.set s (.own (b + p) 0 (A[s].length + 1) 1 (A[s].length + 1))) := by
  have hl := h.len
  have hpl := getElem?_lt hp
  refine ⟨by simp [hl], fun t ht => ?_, fun t u q m n v w htu h1 h2 => ?_⟩
  · by_cases e : s = t
    · subst e
      refine .inr ⟨by simp, p, ?_, ?_⟩
      · rw [List.getElem?_set_self (by omega)]; simp
      · rw [List.getElem?_set_self hpl]; simp
    · have ht' : t < A.length := by simpa using ht
      rw [List.getElem?_set_ne e]
      simp only [List.getElem_set_ne e]
      rcases h.at' t ht' with h1 | ⟨h1, q, h2, h3⟩
      · exact .inl h1
      · refine .inr ⟨h1, q, h2, ?_⟩
        rw [List.getElem?_set_ne (fun hqp => ?_)]; exact h3
        subst hqp
        exact h.inj s t p _ _ _ _ e hc h2
  · by_cases e : s = t
    · subst e
      rw [List.getElem?_set_self (by omega)] at h1
      rw [List.getElem?_set_ne htu] at h2
      simp only [Option.some.injEq, SV.own.injEq] at h1
      have : q = p := by omega
      subst this
      exact h.inj s u q _ _ _ _ htu hc h2
    · rw [List.getElem?_set_ne e] at h1
      by_cases e' : s = u
      · subst e'
        rw [List.getElem?_set_self (by omega)] at h2
        simp only [Option.some.injEq, SV.own.injEq] at h2
        have : q = p := by omega
        subst this
        exact h.inj s t q _ _ _ _ (fun h => e h) hc h1
      · rw [List.getElem?_set_ne e'] at h2
        exact h.inj t u q m n v w htu h1 h2
theorem Fam.fz (h : Fam b L A cs) {n k d : Nat} {F : List AO} (hb : b = n + k) (hF : ∀ p, F[k + p]? = L[p]?) : cs.map (SV.fz n [] F (d + 2)) = A.map slN := by
  apply List.ext_getElem?
  intro s
  rw [List.getElem?_map, List.getElem?_map]
  by_cases hs : s < A.length
  · rw [List.getElem?_eq_getElem hs]
    rcases h.at' s hs with ⟨h1, h2⟩ | ⟨h1, p, h2, h3⟩
    · rw [h2]; simp [slN, h1, nl]
    · rw [h2]
      have e : b + p = n + (k + p) := by omega
      simp only [Option.map_some, slN, if_neg h1, sl, e, fz_own, hF, h3, placeOf]
      simp
  · have h1 := h.len
    rw [List.getElem?_eq_none (by omega), List.getElem?_eq_none (by omega)]
    rfl
end
def setsA : List Nd → Nat → List (List Int) → List (List Int)
  | [], _, A => A
  | x :: r, o, A => setsA r (o + 1) (if x.k = 2 then A.set x.i.toNat (A.getD x.i.toNat [] ++ [(o : Int)]) else A)
def Gm.sets (g : Gm) : List (List Int) := setsA g.ns 0 (List.replicate g.is.length [])
section
variable {H : List AO} {g : Gm}
set_option maxRecDepth 10000 in
theorem loop41 (hg : Gd g) {N : Nat} {K : XE → Env → List AO → Prop}
    (hexit : ∀ env M cs, Fam (H.length + 2) M g.sets cs → env.get 3 = .own (H.length + 1) 0 g.is.length 1 0 → K (.exit 0) env (H ++ gbox g :: ⟨cs, 35, 0, true⟩ :: M)) :
    ∀ (n i : Nat) (env : Env) (M : List AO) (A : List (List Int)) (cs : List SV), i + n = g.ns.length → A.length = g.is.length → (∀ s (h : s < A.length), A[s].length ≤ i) → Fam (H.length + 2) M A cs → setsA (g.ns.drop i) i A = g.sets →
      env.get 1 = .ptr (.own H.length 0 0 0 0) 0 → env.get 3 = .own (H.length + 1) 0 g.is.length 1 0 → env.get 4 = i64 i →
      LI Try.prog N drawB l53_0 env (H ++ gbox g :: ⟨cs, 35, 0, true⟩ :: M) K := by
  have hgn := hg.n
  intro n
  induction n with
  | zero =>
    intro i env M A cs hi hA hAl hF hS h1 h3 h4
    refine li_go hm l53_0.eq_1 ?_
    have e : i = g.ns.length := by omega
    subst e
    rw [List.drop_length] at hS
    subst hS
    simp -implicitDefEqProofs [h1, h3, h4, gbox]
    exact hexit _ _ _ hF (by simp [h3])
  | succ n ih =>
    intro i env M A cs hi hA hAl hF hS h1 h3 h4
    refine li_go hm l53_0.eq_1 ?_
    have hlt : i < g.ns.length := by omega
    have hx : g.ns[i] ∈ g.ns := List.getElem_mem hlt
    have w1 : IntKind.i64.wrap ((i : Int) + 1) = ((i + 1 : Nat) : Int) := wrap_succ (by omega)
    rw [List.drop_eq_getElem_cons hlt, setsA] at hS
    by_cases hk : g.ns[i].k = 2
    · have hb := hg.inf hx hk
      have hs : g.ns[i].i.toNat < A.length := by omega
      have hcl := hF.len
      rw [if_pos hk, List.getD_eq_getElem?_getD, List.getElem?_eq_getElem hs, Option.getD_some] at hS
      have eset : ∀ v : SV, List.take g.ns[i].i.toNat cs ++ v :: List.drop (g.ns[i].i.toNat + 1) cs = cs.set g.ns[i].i.toNat v := fun v => by
        rw [List.set_eq_take_append_cons_drop, if_pos (by omega)]
      have hAl' : ∀ v : List Int, v.length ≤ i + 1 → ∀ s (h : s < (A.set g.ns[i].i.toNat v).length), (A.set g.ns[i].i.toNat v)[s].length ≤ i + 1 := fun v hv s h => by
        by_cases e : g.ns[i].i.toNat = s
        · subst e; simpa using hv
        · rw [List.getElem_set_ne e]
          have := hAl s (by simpa using h); omega
      rcases hF.at' _ hs with ⟨k1, k2⟩ | ⟨k1, p, k2, k3⟩
      · simp -implicitDefEqProofs [h1, h3, h4, gbox, hlt, nds_at hlt, nds_min hlt, nds_ge hlt, hk, sl, k2]
        refine ⟨by omega, by omega, by omega, by omega, ?_⟩
        have hF' : ∀ x y : AO, Fam (H.length + 2) (M ++ [x, y, ⟨[i64 i], 3, 1, true⟩]) (A.set g.ns[i].i.toNat [(i : Int)]) (cs.set g.ns[i].i.toNat (.own (H.length + (M.length + 4)) 0 1 1 1)) := fun x y => by
          have := (hF.mono [x, y]).new (i := (i : Int)) hs k1
          rw [show H.length + 2 + (M ++ [x, y]).length = H.length + (M.length + 4) by simp; omega] at this
          simpa [ints] using this
        rw [k1, List.nil_append] at hS
        rw [eset, w1]
        refine ih (i + 1) _ _ _ _ (by omega) (by simp [hA]) (hAl' _ (by simp)) (hF' _ _) hS ?_ ?_ ?_
        · simp
        · simp
        · simp
      · rw [show H.length + 2 + p = H.length + (p + 1 + 1) by omega] at k2
        have hp := getElem?_lt k3
        have hle := hAl _ hs
        simp -implicitDefEqProofs [h1, h3, h4, gbox, hlt, nds_at hlt, nds_min hlt, nds_ge hlt, hk, sl, k2, setObj_old k3, objCells_set0, objCells_setk, objIs_old k3]
        refine ⟨by omega, by omega, by omega, by omega, by omega, by omega, ?_⟩
        have hF' : ∀ x y : AO, Fam (H.length + 2) (M.set p ⟨ints A[g.ns[i].i.toNat] ++ [i64 i], 3, A[g.ns[i].i.toNat].length + 1, true⟩ ++ [x, y]) (A.set g.ns[i].i.toNat (A[g.ns[i].i.toNat] ++ [(i : Int)]))
            (cs.set g.ns[i].i.toNat (.own (H.length + (p + 1 + 1)) 0 (A[g.ns[i].i.toNat].length + 1) 1 (A[g.ns[i].i.toNat].length + 1))) := fun x y => by
          rw [show H.length + (p + 1 + 1) = H.length + 2 + p by omega] at k2 ⊢
          have := (hF.grow (i := (i : Int)) hs k2 k3).mono [x, y]
          simpa [ints] using this
        rw [eset, w1]
        refine ih (i + 1) _ _ _ _ (by omega) (by simp [hA]) (hAl' _ (by simp; omega)) (hF' _ _) hS ?_ ?_ ?_
        · simp
        · simp
        · simp
    · simp -implicitDefEqProofs [h1, h3, h4, gbox, hlt, nds_at hlt, nds_min hlt, nds_ge hlt, hk, sl]
      rw [if_neg hk] at hS
      rw [w1]
      refine ih (i + 1) _ _ A cs (by omega) hA (fun s h => by have := hAl s h; omega) (hF.mono _) hS ?_ ?_ ?_
      · simp
      · simp
      · simp
theorem setsA_len : ∀ (l : List Nd) (o : Nat) (A : List (List Int)), (setsA l o A).length = A.length
  | [], o, A => rfl
  | x :: r, o, A => by rw [setsA, setsA_len r]; split <;> simp
theorem sets_len : g.sets.length = g.is.length := by simp [Gm.sets, setsA_len]
set_option maxRecDepth 10000 in
theorem ok53 (hg : Gd g) : Ok Try.prog 53 [.agg g.cells] H (.ret (.slc (g.sets.map slN) g.is.length)) H := by
  have hn := hg.n
  have hi := hg.i
  refine ok_fn hm Try.func53 c53 (by simp) fun hcl => ?_
  simp -implicitDefEqProofs [i53, r53, Gm.cells]
  refine ⟨by omega, by omega, ?_⟩
  refine loop41 (g := g) hg (fun env M cs hF h3 => ?_) g.ns.length 0 _ [] (List.replicate g.is.length []) (List.replicate g.is.length nl) (by omega) (by simp) (by simp) (Fam.zero _ _ _) (by simp [Gm.sets]) (by simp) (by simp) (by simp)
  simp -implicitDefEqProofs [h3]
  refine cv_fz 4 hcl rfl ?_
  have hl := hF.len
  rw [sets_len] at hl
  have := hF.fz (n := H.length) (k := 2) (d := 1) (F := gbox g :: (⟨cs, 35, 0, true⟩ : AO) :: M) rfl (fun p => by rw [show 2 + p = p + 1 + 1 by omega]; simp)
  simp [hl, this]
  exact List.take_of_length_le (by simp [sets_len])
end
end Go.Proofs.Ytbfeaikiiamhaaa.Rc

/- H_D11 -/
namespace Go.Proofs.Ytbfeaikiiamhaaa.Rc
open Go.Ab
def Gm.wr (g : Gm) : Option Nat × Int := walkR g.ns (g.ns.length + 1) 0 0 0
def SrtS (A : List (List Int)) : Prop := ∀ k, k < A.length - 1 → ¬ (A.getD (k + 1) []).getD 0 0 < (A.getD k []).getD 0 0
instance (A : List (List Int)) : Decidable (SrtS A) := by unfold SrtS; infer_instance
def Gm.setsR (g : Gm) : Int := if ∃ x ∈ g.ns, x.tyBad g then 10 else if [] ∈ g.sets then 18 else if SrtS g.sets then 0 else 9
def Gm.formR (g : Gm) : Int := if g.rng then 2 else if nodesE g g.ns ≠ 0 then nodesE g g.ns else if g.wr.1 ≠ some g.ns.length then 9 else if 40 < g.wr.2 then 5 else g.setsR
theorem infs_g1 {l : List (Int × Int)} {k : Nat} (h : k < l.length) : (infs l)[k * 2 + 1]? = some (i64 l[k].2) := by
  rw [← List.getElem?_drop, infs_at h]; rfl
theorem bad_iff {g : Gm} {x : Nd} (hk : x.k = 2) (hb : x.i.toNat < g.is.length) : (¬g.is[x.i.toNat].fst = x.p ∨ ¬g.is[x.i.toNat].snd = (x.nx.length : Int)) ↔ x.tyBad g := by
  unfold Nd.tyBad
  rw [List.getElem?_eq_getElem hb]
  simp only [hk, true_and, ne_eq, Option.some.injEq]
  rw [← Prod.eta g.is[x.i.toNat], Prod.mk.injEq]
  constructor
  · rintro (h | h) ⟨h1, h2⟩
    · exact h h1
    · exact h h2
  · intro h
    by_cases h1 : g.is[x.i.toNat].fst = x.p
    · exact .inr fun h2 => h ⟨h1, h2⟩
    · exact .inl h1
section
variable {H : List AO} {g : Gm}
set_option maxRecDepth 10000 in
theorem loop13_0 (g1 : 1 ≤ g.pl) (g4 : g.pl ≤ 4) (g5 : g.is.length ≤ 200) (hn : g.ns.length ≤ 2000) {N : Nat} {K : XE → Env → List AO → Prop}
    (hret : nodesE g g.ns ≠ 0 → ∀ env, env.get 2 = i64 (nodesE g g.ns) → K .ret env (H ++ [gbox g]))
    (hexit : (∀ x ∈ g.ns, x.err g = 0) → nodesE g g.ns = 0 → ∀ env, env.get 1 = .ptr (.own H.length 0 0 0 0) 0 → K (.exit 0) env (H ++ [gbox g])) :
    ∀ (n i : Nat) (env : Env), i + n = g.ns.length → (∀ k (h : k < g.ns.length), k < i → g.ns[k].err g = 0) → nodesE g (g.ns.drop i) = nodesE g g.ns →
      env.get 1 = .ptr (.own H.length 0 0 0 0) 0 → env.get 3 = i64 i →
      LI Try.prog N drawB l35_0 env (H ++ [gbox g]) K := by
  intro n
  induction n with
  | zero =>
    intro i env hi hp hE e1 e3
    refine li_go hm l35_0.eq_1 ?_
    have e : i = g.ns.length := by omega
    subst e
    simp -implicitDefEqProofs [e1, e3, gbox]
    rw [List.drop_length] at hE
    refine hexit ?_ hE.symm _ (by simp [e1])
    intro x hx
    obtain ⟨k, hk, rfl⟩ := List.getElem_of_mem hx
    exact hp k hk hk
  | succ n ih =>
    intro i env hi hp hE e1 e3
    refine li_go hm l35_0.eq_1 ?_
    have hlt : i < g.ns.length := by omega
    have w1 : IntKind.i64.wrap ((i : Int) + 1) = ((i + 1 : Nat) : Int) := wrap_succ (by omega)
    rw [List.drop_eq_getElem_cons hlt, nodesE] at hE
    simp -implicitDefEqProofs [e1, e3, gbox, hlt, nds_at hlt, nds_min hlt, nds_ge hlt, sl]
    have hh := fun H => ok51 (H := H) (x := g.ns[i]) g1 g4 g5
    simp only [Gm.cells, Nd.cells, sl] at hh
    refine callq_go (fun _ => hh _) ?_
    by_cases hc : g.ns[i].err g = 0
    · rw [if_pos hc] at hE
      simp -implicitDefEqProofs [hc, e3]
      rw [w1]
      refine ih (i + 1) _ (by omega) ?_ hE ?_ ?_
      rotate_left
      · simp [e1]
      · simp
      intro k hk hki
      by_cases e : k = i
      · subst e; exact hc
      · exact hp k hk (by omega)
    · rw [if_neg hc] at hE
      simp -implicitDefEqProofs [hc]
      refine hret ?_ _ (by simp [hE])
      rw [← hE]; exact hc
set_option maxRecDepth 10000 in
theorem loop13_1 (hg : Gd g) {N : Nat} {K : XE → Env → List AO → Prop} {r : AO}
    (hret : (∃ x ∈ g.ns, x.tyBad g) → ∀ env M, env.get 2 = i64 10 → K .ret env (H ++ gbox g :: r :: M))
    (hexit : (¬ ∃ x ∈ g.ns, x.tyBad g) → ∀ env M, env.get 1 = .ptr (.own H.length 0 0 0 0) 0 → K (.exit 2) env (H ++ gbox g :: r :: M)) :
    ∀ (n i : Nat) (env : Env) (M : List AO), i + n = g.ns.length → (∀ k (h : k < g.ns.length), k < i → ¬ g.ns[k].tyBad g) → env.get 1 = .ptr (.own H.length 0 0 0 0) 0 → env.get 6 = i64 i →
      LI Try.prog N drawB l35_1 env (H ++ gbox g :: r :: M) K := by
  have hn := hg.n
  intro n
  induction n with
  | zero =>
    intro i env M hi hp h1 h6
    refine li_go hm l35_1.eq_1 ?_
    have e : i = g.ns.length := by omega
    subst e
    simp -implicitDefEqProofs [h1, h6, gbox]
    refine hexit ?_ _ _ (by simp [h1])
    rintro ⟨x, hx, hb⟩
    obtain ⟨k, hk, rfl⟩ := List.getElem_of_mem hx
    exact hp k hk hk hb
  | succ n ih =>
    intro i env M hi hp h1 h6
    refine li_go hm l35_1.eq_1 ?_
    have hlt : i < g.ns.length := by omega
    have hx : g.ns[i] ∈ g.ns := List.getElem_mem hlt
    have w1 : IntKind.i64.wrap ((i : Int) + 1) = ((i + 1 : Nat) : Int) := wrap_succ (by omega)
    by_cases hk : g.ns[i].k = 2
    · have hb := hg.inf hx hk
      have hb' : g.ns[i].i.toNat < g.is.length := by omega
      simp -implicitDefEqProofs [h1, h6, gbox, hlt, nds_at hlt, nds_min hlt, nds_ge hlt, infs_at hb', infs_g1 hb', infs_len, hk, sl]
      refine ⟨by omega, fun e => ⟨e, by omega, by omega⟩, fun e => ⟨e, by omega⟩, ?_⟩
      split
      · rename_i hc
        exact hret ⟨_, hx, (bad_iff hk hb').1 hc⟩ _ _ (by simp)
      · rename_i hc
        rw [w1]
        refine ih (i + 1) _ _ (by omega) ?_ ?_ ?_
        rotate_left
        · simp
        · simp
        intro k hk' hki
        by_cases e : k = i
        · subst e; exact fun hb => hc ((bad_iff hk hb').2 hb)
        · exact hp k hk' (by omega)
    · simp -implicitDefEqProofs [h1, h6, gbox, hlt, nds_at hlt, nds_min hlt, nds_ge hlt, hk, sl]
      rw [w1]
      refine ih (i + 1) _ _ (by omega) ?_ ?_ ?_
      rotate_left
      · simp
      · simp
      intro k hk' hki
      by_cases e : k = i
      · subst e; exact fun hb => hk hb.1
      · exact hp k hk' (by omega)
theorem slN_nil : slN [] = nl := rfl
theorem slN_ne {l : List Int} (h : l ≠ []) : slN l = .slc (ints l) l.length := by unfold slN; rw [if_neg h]; rfl
theorem slN_at {A : List (List Int)} {k : Nat} (h : k < A.length) : (A.map slN).drop k = slN A[k] :: (A.drop (k + 1)).map slN := by
  rw [List.drop_eq_getElem_cons (by simpa using h)]; simp
theorem slN_g {A : List (List Int)} {k : Nat} (h : k < A.length) : (A.map slN)[k]? = some (slN A[k]) := by simp [h]
set_option maxRecDepth 10000 in
theorem loop13_2 {A : List (List Int)} (hA : A.length ≤ 200) {N : Nat} {K : XE → Env → List AO → Prop}
    (hret : [] ∈ A → ∀ env, env.get 2 = i64 18 → K .ret env H)
    (hexit : (∀ k (h : k < A.length), A[k] ≠ []) → ∀ env, env.get 8 = .slc (A.map slN) A.length → K (.exit 4) env H) :
    ∀ (n i : Nat) (env : Env), i + n = A.length → (∀ k (h : k < A.length), k < i → A[k] ≠ []) → env.get 8 = .slc (A.map slN) A.length → env.get 9 = i64 i →
      LI Try.prog N drawB l35_2 env H K := by
  intro n
  induction n with
  | zero =>
    intro i env hi hp h8 h9
    refine li_go hm l35_2.eq_1 ?_
    have e : i = A.length := by omega
    subst e
    simp -implicitDefEqProofs [h8, h9]
    exact hexit (fun k h => hp k h h) _ (by simp [h8])
  | succ n ih =>
    intro i env hi hp h8 h9
    refine li_go hm l35_2.eq_1 ?_
    have hlt : i < A.length := by omega
    have w1 : IntKind.i64.wrap ((i : Int) + 1) = ((i + 1 : Nat) : Int) := wrap_succ (by omega)
    by_cases hk : A[i] = []
    · simp -implicitDefEqProofs [h8, h9, hlt, slN_at hlt, hk, slN_nil, show (SV.val (Value.slice none 0 0)).isSl = true by rfl, show (SV.val (Value.slice none 0 0)).slen = 0 by rfl]
      exact hret (by rw [← hk]; exact List.getElem_mem hlt) _ (by simp)
    · simp -implicitDefEqProofs [h8, h9, hlt, slN_at hlt, slN_ne hk, hk]
      rw [w1]
      refine ih (i + 1) _ (by omega) ?_ ?_ ?_
      rotate_left
      · simp
      · simp
      intro k hk' hki
      by_cases e : k = i
      · subst e; exact hk
      · exact hp k hk' (by omega)
theorem srtS_iff {A : List (List Int)} : SrtS A ↔ ∀ k (h : k + 1 < A.length), ¬ (A[k + 1]).getD 0 0 < (A[k]).getD 0 0 := by
  constructor
  · intro h k hk
    have := h k (by omega)
    rwa [List.getD_eq_getElem?_getD (l := A), List.getD_eq_getElem?_getD (l := A), List.getElem?_eq_getElem hk, List.getElem?_eq_getElem (show k < A.length by omega), Option.getD_some, Option.getD_some] at this
  · intro h k hk
    rw [List.getD_eq_getElem?_getD (l := A), List.getD_eq_getElem?_getD (l := A), List.getElem?_eq_getElem (show k + 1 < A.length by omega), List.getElem?_eq_getElem (show k < A.length by omega), Option.getD_some, Option.getD_some]
    exact h k (by omega)
theorem ints_h {l : List Int} (h : l ≠ []) : (ints l).head? = some (i64 (l.getD 0 0)) := by
  cases l with
  | nil => exact (h rfl).elim
  | cons x r => rfl
set_option maxRecDepth 10000 in
theorem loop13_3 {A : List (List Int)} (hA : A.length ≤ 200) (hne : ∀ k (h : k < A.length), A[k] ≠ []) {N : Nat} {K : XE → Env → List AO → Prop}
    (hret : ¬ SrtS A → ∀ env, env.get 2 = i64 9 → K .ret env H)
    (hexit : SrtS A → ∀ env, K (.exit 6) env H) :
    ∀ (n i : Nat) (env : Env), i + n = A.length → (∀ k (h : k + 1 < A.length), k < i → ¬ (A[k + 1]).getD 0 0 < (A[k]).getD 0 0) → env.get 8 = .slc (A.map slN) A.length → env.get 10 = i64 ((i : Int) + 1) →
      LI Try.prog N drawB l35_3 env H K := by
  intro n
  induction n with
  | zero =>
    intro i env hi hp h8 h10
    refine li_go hm l35_3.eq_1 ?_
    have e : i = A.length := by omega
    subst e
    simp -implicitDefEqProofs [h8, h10, show ¬ ((A.length : Int) + 1 < A.length) by omega]
    exact hexit (srtS_iff.2 fun k h => hp k h (by omega)) _
  | succ n ih =>
    intro i env hi hp h8 h10
    refine li_go hm l35_3.eq_1 ?_
    have hlt : i < A.length := by omega
    have w1 : IntKind.i64.wrap ((i : Int) + 1 + 1) = ((i + 1 : Nat) : Int) + 1 := by rw [wrap_id (by omega) (by omega)]; omega
    have w2 : IntKind.i64.wrap (i : Int) = i := wrap_nat (by omega)
    by_cases he : i + 1 = A.length
    · simp -implicitDefEqProofs [h8, h10, show ¬ ((i : Int) + 1 < A.length) by omega]
      exact hexit (srtS_iff.2 fun k h => hp k h (by omega)) _
    · have hlt1 : i + 1 < A.length := by omega
      have m1 := hne _ hlt1
      have m0 := hne _ hlt
      simp -implicitDefEqProofs [h8, h10, hlt, hlt1, show ((i : Int) + 1 < A.length) by omega, slN_at hlt, slN_at hlt1, slN_g hlt1, slN_g hlt, slN_ne m1, slN_ne m0, w2, ints_h m1, ints_h m0]
      have l1 : 0 < A[i + 1].length := List.length_pos_iff.2 m1
      have l0 : 0 < A[i].length := List.length_pos_iff.2 m0
      refine ⟨by omega, l1, l1, l0, l0, ?_⟩
      have ec : ((A[i + 1])[0]?.getD 0 < (A[i])[0]?.getD 0) = ((A[i + 1]).getD 0 0 < (A[i]).getD 0 0) := by rw [List.getD_eq_getElem?_getD, List.getD_eq_getElem?_getD]
      split
      · rename_i hc
        exact hret (fun h => srtS_iff.1 h i hlt1 (by simpa [List.getD_eq_getElem?_getD] using hc)) _ (by simp)
      · rename_i hc
        rw [w1]
        refine ih (i + 1) _ (by omega) ?_ ?_ ?_
        rotate_left
        · simp
        · simp
        intro k hk' hki
        by_cases e : k = i
        · subst e; simpa [List.getD_eq_getElem?_getD] using hc
        · exact hp k hk' (by omega)
set_option maxRecDepth 10000 in
theorem ok35 : Ok Try.prog 35 [.agg g.cells] H (.ret (i64 g.formR)) H := by
  refine ok_fn hm Try.func35 c35 (by simp) fun hcl => ?_
  simp -implicitDefEqProofs [i35, r35, Gm.cells]
  have hR : g.rng = (((((g.pl < 1 ∨ 4 < g.pl) ∨ (g.ns.length : Int) < 1) ∨ 2000 < (g.ns.length : Int)) ∨ 200 < (g.is.length : Int))) := rfl
  split
  · rename_i hc
    refine cv_fz 2 hcl rfl ?_
    simp [Gm.formR, hR, hc]
  · rename_i hc
    have g1 : 1 ≤ g.pl := by omega
    have g4 : g.pl ≤ 4 := by omega
    have gi : g.is.length ≤ 200 := by omega
    have gn : g.ns.length ≤ 2000 := by omega
    have gn1 : 1 ≤ g.ns.length := by omega
    refine loop13_0 (g := g) g1 g4 gi gn (fun hE env e2 => ?_) (fun hE hE' env e1 => ?_) g.ns.length 0 _ (by omega) (by omega) (by simp) (by simp) (by simp)
    · simp -implicitDefEqProofs [e2]
      refine cv_fz 2 hcl rfl ?_
      simp [Gm.formR, hR, hc, hE]
    · have hG : Gd g := ⟨g1, g4, gn1, gn, gi, hE⟩
      simp -implicitDefEqProofs [e1, gbox]
      have hup : ∀ m, upq (H ++ [gbox g, (⟨[i64 0], 3, 0, true⟩ : AO)]) (H.length + 1) m = H ++ [gbox g, (⟨[i64 m], 3, 0, true⟩ : AO)] := fun m => by simp [upq]
      have hnx : ∀ x ∈ g.ns, x.nx.length < 4611686018427387904 := fun x hx => by have := nx_of (hE x hx); omega
      have ok := ok52 (g := g) (q := H.length + 1) gn hnx (g.ns.length + 1) (H ++ [gbox g, (⟨[i64 0], 3, 0, true⟩ : AO)]) 0 0 0 (by simp) (by omega) (by omega) (by omega) (by omega)
      rw [hup, hup] at ok
      have hwr : walkR g.ns (g.ns.length + 1) 0 0 0 = g.wr := rfl
      rw [hwr] at ok
      have hwok := walkR_ok (ns := g.ns) (g.ns.length + 1) 0 0 0
      rw [hwr] at hwok
      refine call_go ok ?_
      have hF : g.formR = if g.wr.1 ≠ some g.ns.length then 9 else if 40 < g.wr.2 then 5 else g.setsR := by
        unfold Gm.formR
        rw [if_neg (show ¬ g.rng by rw [hR]; exact hc), if_neg (show ¬ nodesE g g.ns ≠ 0 by simpa using hE')]
      have hres : resR g.wr.1 = (g.ns.length : Int) ↔ g.wr.1 = some g.ns.length := by
        cases h : g.wr.1 with
        | none => simp [resR]
        | some r => simp [resR]; omega
      simp -implicitDefEqProofs [gbox, e1]
      by_cases hk : g.wr.1 = some g.ns.length
      · rw [if_pos (hres.2 hk)]
        rw [hk] at hF
        by_cases hm : 40 < g.wr.2
        · rw [if_pos hm]
          refine cv_fz 2 hcl rfl ?_
          rw [hF]; simp [hm]
        · rw [if_neg hm]
          have hF' : g.formR = g.setsR := by rw [hF]; simp [hm]
          rw [hF']
          unfold Gm.setsR
          refine loop13_1 (g := g) (r := ⟨[i64 g.wr.2], 3, 0, true⟩) hG (fun hb env M h2 => ?_) (fun hb env M h1 => ?_) g.ns.length 0 _ [] (by omega) (by omega) (by simp [e1]) (by simp)
          · simp -implicitDefEqProofs [h2]
            refine cv_fz 2 hcl rfl ?_
            rw [if_pos hb]; simp
          · rw [if_neg hb]
            simp -implicitDefEqProofs [h1, gbox]
            have hh := fun H => ok53 (H := H) hG
            simp only [Gm.cells] at hh
            refine call_go (hh _) ?_
            have hsl : g.sets.length = g.is.length := sets_len
            rw [← hsl]
            simp -implicitDefEqProofs
            refine loop13_2 (A := g.sets) (by omega) (fun hz env h2 => ?_) (fun hz env h8 => ?_) g.sets.length 0 _ (by omega) (by omega) (by simp) (by simp)
            · simp -implicitDefEqProofs [h2]
              refine cv_fz 2 hcl rfl ?_
              simp [hz]
            · have hz' : ¬ [] ∈ g.sets := fun h => by
                obtain ⟨k, hk, e⟩ := List.getElem_of_mem h
                exact hz k hk e
              rw [if_neg hz']
              simp -implicitDefEqProofs [h8]
              refine loop13_3 (A := g.sets) (by omega) hz (fun hs env h2 => ?_) (fun hs env => ?_) g.sets.length 0 _ (by omega) (by omega) (by simp [h8]) (by simp)
              · simp -implicitDefEqProofs [h2]
                refine cv_fz 2 hcl rfl ?_
                simp [hs]
              · simp -implicitDefEqProofs
                refine cv_fz 2 hcl rfl ?_
                simp [hs]
      · rw [if_neg (fun h => hk (hres.1 h))]
        refine cv_fz 2 hcl rfl ?_
        rw [hF]; simp [hk]
end
end Go.Proofs.Ytbfeaikiiamhaaa.Rc

/- H_D12 -/
namespace Go.Proofs.Ytbfeaikiiamhaaa.Rc
open Go.Ab
theorem maxL_le {l : List Int} (h : 0 < l.length) {x : Int} : maxL l ≤ x ↔ ∀ i, i < l.length → l.getD i 0 ≤ x := by
  have hf : ∀ (r : List Int) (a : Int), r.foldl max a ≤ x ↔ a ≤ x ∧ ∀ y ∈ r, y ≤ x := by
    intro r
    induction r with
    | nil => intro a; simp
    | cons y r ih =>
      intro a
      rw [List.foldl_cons, ih]
      simp only [List.mem_cons, forall_eq_or_imp]
      constructor
      · rintro ⟨h1, h2⟩; exact ⟨by omega, by omega, h2⟩
      · rintro ⟨h1, h2, h3⟩; exact ⟨by omega, h3⟩
  cases l with
  | nil => simp at h
  | cons y r =>
    rw [maxL, List.tail_cons, List.headD_cons, hf]
    constructor
    · rintro ⟨h1, h2⟩ i hi
      cases i with
      | zero => simpa using h1
      | succ i =>
        have hi' : i < r.length := by simpa using hi
        have := h2 _ (List.getElem_mem hi')
        simpa [List.getD_eq_getElem?_getD, hi'] using this
    · intro h1
      refine ⟨by simpa using h1 0 (by simp), fun y hy => ?_⟩
      obtain ⟨k, hk, rfl⟩ := List.getElem_of_mem hy
      have := h1 (k + 1) (by simpa using hk)
      simpa [List.getD_eq_getElem?_getD, hk] using this
def MxR (D : List Int) (a b : Nat) (m m' : Int) : Prop := ∀ x, m' ≤ x ↔ (m ≤ x ∧ ∀ i, a ≤ i → i < b → D.getD i 0 ≤ x)
theorem kids_rel {n : Nat} {w : Nat → W3 → Option Nat × W3} {v : Nat → Int → Option Nat × Int} (hok : ∀ r s, s.ok n → (w r s).2.ok n ∧ ∀ r', (w r s).1 = some r' → r < r' ∧ r' ≤ n)
    (h : ∀ r s m, s.ok n → (w r s).1 = (v r m).1 ∧ ∀ r', (w r s).1 = some r' → (∀ i, i < r → (w r s).2.D.getD i 0 = s.D.getD i 0) ∧ MxR (w r s).2.D r r' m (v r m).2) :
    ∀ (l : List Int) (r : Nat) (s : W3) (m : Int), s.ok n → (kids w l r s).1 = (kidsR v l r m).1 ∧ ∀ r', (kids w l r s).1 = some r' → (∀ i, i < r → (kids w l r s).2.D.getD i 0 = s.D.getD i 0) ∧ MxR (kids w l r s).2.D r r' m (kidsR v l r m).2
  | [], r, s, m, hs => by
    refine ⟨rfl, fun r' h' => ⟨fun _ _ => rfl, fun x => ?_⟩⟩
    simp only [kids, Option.some.injEq] at h'
    subst h'
    simp only [kidsR]
    exact ⟨fun h => ⟨h, fun i h1 h2 => by omega⟩, fun h => h.1⟩
  | c :: cs, r, s, m, hs => by
    unfold kids kidsR
    by_cases hc : c = r
    · rw [if_pos hc, if_pos hc]
      obtain ⟨h1, h2⟩ := h r s m hs
      have h3 := hok r s hs
      cases hw : w r s with
      | mk o s1 =>
        cases hv : v r m with
        | mk o' m1 =>
          rw [hw, hv] at h1
          rw [hw] at h2 h3
          rw [hv] at h2
          simp only at h1
          subst h1
          cases o with
          | none => exact ⟨rfl, fun r' h' => by simp at h'⟩
          | some r1 =>
            obtain ⟨h4, h5⟩ := h2 r1 rfl
            have h6 := h3.2 r1 rfl
            obtain ⟨h7, h8⟩ := kids_rel hok h cs r1 s1 m1 h3.1
            refine ⟨h7, fun r' h' => ?_⟩
            obtain ⟨h9, h10⟩ := h8 r' h'
            refine ⟨fun i hi => ?_, fun x => ?_⟩
            · simp only
              rw [h9 i (by omega)]; exact h4 i hi
            · simp only
              rw [h10 x, h5 x]
              constructor
              · rintro ⟨⟨k1, k2⟩, k3⟩
                refine ⟨k1, fun i h1 h2 => ?_⟩
                by_cases hi : i < r1
                · rw [h9 i hi]; exact k2 i h1 hi
                · exact k3 i (by omega) h2
              · rintro ⟨k1, k2⟩
                have hr' : r1 ≤ r' := (kids_ok (m := 0) (fun r s _ hs => hok r s hs) cs r1 s1 (by omega) h6.2 h3.1).2 r' h' |>.1
                refine ⟨⟨k1, fun i h1 h2 => ?_⟩, fun i h1 h2 => k2 i (by omega) h2⟩
                have := k2 i h1 (by omega)
                rwa [h9 i h2] at this
    · rw [if_neg hc, if_neg hc]
      exact ⟨rfl, fun r' h' => by simp at h'⟩
theorem getD_set_ne {l : List Int} {i k : Nat} {v : Int} (h : i ≠ k) : (l.set k v).getD i 0 = l.getD i 0 := by
  rw [List.getD_eq_getElem?_getD, List.getD_eq_getElem?_getD, List.getElem?_set_ne (fun e => h e.symm)]
theorem getD_set_eq {l : List Int} {k : Nat} {v : Int} (h : k < l.length) : (l.set k v).getD k 0 = v := by
  rw [List.getD_eq_getElem?_getD, List.getElem?_set_self h]; rfl
theorem walk_rel {ns : List Nd} : ∀ (f : Nat) (par dep : Int) (k : Nat) (s : W3) (m : Int), s.ok ns.length →
    (walkS ns f par dep k s).1 = (walkR ns f dep k m).1 ∧ ∀ r, (walkS ns f par dep k s).1 = some r →
      ((∀ i, i < k → (walkS ns f par dep k s).2.D.getD i 0 = s.D.getD i 0) ∧ MxR (walkS ns f par dep k s).2.D k r m (walkR ns f dep k m).2) ∧ (walkS ns f par dep k s).2.D.getD k 0 = dep
  | 0, par, dep, k, s, m, hs => ⟨rfl, fun r h => by simp [walkS] at h⟩
  | f + 1, par, dep, k, s, m, hs => by
    unfold walkS walkR
    cases hk : ns[k]? with
    | none => exact ⟨rfl, fun r h => by simp at h⟩
    | some x =>
      have hlt := getElem?_lt hk
      have hs' : W3.ok ⟨s.P.set k par, s.D.set k dep, s.L⟩ ns.length := ⟨by simpa using hs.1, by simpa using hs.2.1, hs.2.2⟩
      have hr := kids_rel (n := ns.length) (w := walkS ns f k (dep + 1)) (v := walkR ns f (dep + 1)) (fun r s hs => walkS_ok f k (dep + 1) r s hs)
        (fun r s m hs => ⟨(walk_rel f k (dep + 1) r s m hs).1, fun r' h => ((walk_rel f k (dep + 1) r s m hs).2 r' h).1⟩) x.nx (k + 1) ⟨s.P.set k par, s.D.set k dep, s.L⟩ (max m dep) hs'
      have hk2 := kids_ok (n := ns.length) (w := walkS ns f k (dep + 1)) (m := 0) (fun r s _ hs => walkS_ok f k (dep + 1) r s hs) x.nx (k + 1) ⟨s.P.set k par, s.D.set k dep, s.L⟩ (by omega) (by omega) hs'
      simp only
      cases hh : kids (walkS ns f k (dep + 1)) x.nx (k + 1) ⟨s.P.set k par, s.D.set k dep, s.L⟩ with
      | mk o s1 =>
        cases hv : kidsR (walkR ns f (dep + 1)) x.nx (k + 1) (max m dep) with
        | mk o' m1 =>
          rw [hh, hv] at hr
          rw [hh] at hk2
          obtain ⟨h1, h2⟩ := hr
          simp only at h1
          subst h1
          cases o with
          | none => exact ⟨rfl, fun r' h' => by simp at h'⟩
          | some r1 =>
            obtain ⟨h3, h4⟩ := h2 r1 rfl
            have hr1 := hk2.2 r1 rfl
            have hD : s.D.length = ns.length := hs.2.1
            have hk0 : s1.D.getD k 0 = dep := by rw [h3 k (by omega)]; exact getD_set_eq (by omega)
            refine ⟨rfl, fun r h' => ?_⟩
            simp only [Option.some.injEq] at h'
            subst h'
            refine ⟨⟨fun i hi => ?_, fun x => ?_⟩, hk0⟩
            · show s1.D.getD i 0 = _
              rw [h3 i (by omega)]; exact getD_set_ne (by omega)
            · show m1 ≤ x ↔ _
              rw [h4 x]
              constructor
              · rintro ⟨k1, k2⟩
                refine ⟨by omega, fun i h1 h2 => ?_⟩
                by_cases e : i = k
                · subst e; show s1.D.getD i 0 ≤ x; rw [hk0]; omega
                · exact k2 i (by omega) h2
              · rintro ⟨k1, k2⟩
                have := k2 k (by omega) (by omega)
                have this : s1.D.getD k 0 ≤ x := this
                rw [hk0] at this
                exact ⟨by omega, fun i h1 h2 => k2 i (by omega) h2⟩
/-- The places of a set's nodes. -/
def occ (s : Nat) : List Nd → Nat → List Int
  | [], _ => []
  | x :: r, o => if x.k = 2 ∧ x.i.toNat = s then (o : Int) :: occ s r (o + 1) else occ s r (o + 1)
theorem occ_ge {s : Nat} : ∀ {l : List Nd} {o : Nat} {a : Int}, a ∈ occ s l o → 0 ≤ a
  | [], o, a, h => by simp [occ] at h
  | x :: r, o, a, h => by
    unfold occ at h
    split at h
    · rcases List.mem_cons.1 h with rfl | h
      · omega
      · exact occ_ge h
    · exact occ_ge h
theorem setsA_at {s : Nat} : ∀ (l : List Nd) (o : Nat) (A : List (List Int)), s < A.length → (setsA l o A).getD s [] = A.getD s [] ++ occ s l o
  | [], o, A, h => by simp [setsA, occ]
  | x :: r, o, A, h => by
    unfold setsA occ
    by_cases hk : x.k = 2
    · rw [if_pos hk, setsA_at r (o + 1) _ (by simpa using h)]
      by_cases e : x.i.toNat = s
      · rw [if_pos ⟨hk, e⟩, e]
        simp [List.getD_eq_getElem?_getD, h]
      · rw [if_neg (fun h => e h.2)]
        simp [List.getD_eq_getElem?_getD, List.getElem?_set_ne e]
    · rw [if_neg hk, if_neg (fun h => hk h.1), setsA_at r (o + 1) A h]
theorem fst1_at {s : Nat} {z : List Int} (hz : s < z.length) : ∀ (l : List Nd) (o : Nat), (fst1 l o z).getD s 0 = (match occ s l o with | [] => z.getD s 0 | a :: _ => a + 1)
  | [], o => by simp [fst1, occ]
  | x :: r, o => by
    unfold fst1 occ
    by_cases hk : x.k = 2
    · rw [if_pos hk]
      by_cases e : x.i.toNat = s
      · rw [if_pos ⟨hk, e⟩, e, getD_set_eq (by simpa using hz)]
      · rw [if_neg (fun h => e h.2), getD_set_ne (fun h => e h.symm)]
        exact fst1_at hz r (o + 1)
    · rw [if_neg hk, if_neg (fun h => hk h.1)]
      exact fst1_at hz r (o + 1)
section
variable {g : Gm}
theorem sets_at {s : Nat} (hs : s < g.is.length) : g.sets.getD s [] = occ s g.ns 0 := by
  rw [Gm.sets, setsA_at _ _ _ (by simpa using hs)]
  simp [List.getD_eq_getElem?_getD, hs]
theorem firsts_at {s : Nat} (hs : s < g.is.length) : g.firsts.getD s 0 = (match g.sets.getD s [] with | [] => 0 | a :: _ => a + 1) := by
  rw [Gm.firsts, fst1_at (by simpa using hs), sets_at hs]
  simp [List.getD_eq_getElem?_getD, hs]
theorem none_iff : (0 : Int) ∈ g.firsts ↔ [] ∈ g.sets := by
  have hl : g.sets.length = g.is.length := sets_len
  have hf : g.firsts.length = g.is.length := by simp [Gm.firsts]
  constructor
  · intro h
    obtain ⟨s, hs, e⟩ := List.getElem_of_mem h
    have := firsts_at (g := g) (s := s) (by omega)
    rw [List.getD_eq_getElem?_getD, List.getElem?_eq_getElem hs, Option.getD_some, e] at this
    have hs' : s < g.sets.length := by omega
    have h2 : g.sets.getD s [] = g.sets[s] := by rw [List.getD_eq_getElem?_getD, List.getElem?_eq_getElem hs']; rfl
    cases hc : g.sets.getD s [] with
    | nil => rw [← hc, h2]; exact List.getElem_mem hs'
    | cons a r =>
      rw [hc] at this
      have h3 : 0 ≤ a := occ_ge (s := s) (l := g.ns) (o := 0) (by rw [← sets_at (by omega), hc]; simp)
      simp only at this; omega
  · intro h
    obtain ⟨s, hs, e⟩ := List.getElem_of_mem h
    have := firsts_at (g := g) (s := s) (by omega)
    rw [List.getD_eq_getElem?_getD (l := g.sets), List.getElem?_eq_getElem hs, Option.getD_some, e] at this
    have hs' : s < g.firsts.length := by omega
    rw [List.getD_eq_getElem?_getD, List.getElem?_eq_getElem hs', Option.getD_some] at this
    simp only at this
    rw [← this]; exact List.getElem_mem hs'
theorem srt_same (h : ¬ [] ∈ g.sets) : Srt g.firsts ↔ SrtS g.sets := by
  have hl : g.sets.length = g.is.length := sets_len
  have hf : g.firsts.length = g.is.length := by simp [Gm.firsts]
  have hv : ∀ s, s < g.is.length → g.firsts.getD s 0 = (g.sets.getD s []).getD 0 0 + 1 := by
    intro s hs
    rw [firsts_at hs]
    cases hc : g.sets.getD s [] with
    | nil =>
      exfalso; apply h
      have hs' : s < g.sets.length := by omega
      rw [List.getD_eq_getElem?_getD, List.getElem?_eq_getElem hs', Option.getD_some] at hc
      rw [← hc]; exact List.getElem_mem hs'
    | cons a r => simp
  unfold Srt SrtS
  rw [hf, hl]
  constructor
  · intro h1 k hk
    have := h1 k hk
    rw [hv _ (by omega), hv _ (by omega)] at this
    omega
  · intro h1 k hk
    have := h1 k hk
    rw [hv _ (by omega), hv _ (by omega)]
    omega
theorem setsE_eq : g.setsE = g.setsR := by
  unfold Gm.setsE Gm.setsR
  by_cases hb : ∃ x ∈ g.ns, x.tyBad g
  · rw [if_pos hb, if_pos hb]
  · rw [if_neg hb, if_neg hb]
    by_cases h0 : [] ∈ g.sets
    · rw [if_pos h0, if_pos (none_iff.2 h0)]
    · rw [if_neg h0, if_neg (fun h => h0 (none_iff.1 h))]
      by_cases hs : SrtS g.sets
      · rw [if_pos hs, if_pos ((srt_same h0).2 hs)]
      · rw [if_neg hs, if_neg (fun h => hs ((srt_same h0).1 h))]
def Gm.formE (g : Gm) : Int := if g.err0 ≠ 0 then g.err0 else g.setsE
theorem w0_ok : g.w0.ok g.ns.length := ⟨by simp [Gm.w0], by simp [Gm.w0], by simp [Gm.w0]⟩
theorem wk_eq : g.wk.1 = g.wr.1 := (walk_rel (ns := g.ns) (g.ns.length + 1) (-1) 0 0 g.w0 0 w0_ok).1
theorem wk_max (h1 : 1 ≤ g.ns.length) (h : g.wk.1 = some g.ns.length) : maxL g.wk.2.D = g.wr.2 := by
  have hr := (walk_rel (ns := g.ns) (g.ns.length + 1) (-1) 0 0 g.w0 0 w0_ok).2 g.ns.length h
  have hok := (walkS_ok (ns := g.ns) (g.ns.length + 1) (-1) 0 0 g.w0 w0_ok).1
  have hD : g.wk.2.D.length = g.ns.length := hok.2.1
  have hx : ∀ x, maxL g.wk.2.D ≤ x ↔ g.wr.2 ≤ x := by
    intro x
    rw [maxL_le (by omega)]
    have := hr.1.2 x
    have h0 : g.wk.2.D.getD 0 0 = 0 := hr.2
    show _ ↔ (walkR g.ns (g.ns.length + 1) 0 0 0).2 ≤ x
    rw [this, hD]
    constructor
    · intro k
      have := k 0 (by omega)
      rw [h0] at this
      exact ⟨this, fun i _ hi => k i hi⟩
    · rintro ⟨_, k⟩ i hi
      exact k i (by omega) hi
  have := (hx (maxL g.wk.2.D)).1 (Int.le_refl _)
  have := (hx g.wr.2).2 (Int.le_refl _)
  omega
/-- THE TWO FORMS ARE ONE. -/
theorem form_eq : g.formE = g.formR := by
  have hR : g.rng = (((((g.pl < 1 ∨ 4 < g.pl) ∨ (g.ns.length : Int) < 1) ∨ 2000 < (g.ns.length : Int)) ∨ 200 < (g.is.length : Int))) := rfl
  unfold Gm.formE Gm.err0 Gm.formR
  by_cases hr : g.rng
  · simp [hr]
  · rw [if_neg hr, if_neg hr]
    by_cases hn : nodesE g g.ns = 0
    · have hn' : ¬ nodesE g g.ns ≠ 0 := by simpa using hn
      rw [if_neg hn', if_neg hn', wk_eq]
      by_cases hk : g.wr.1 = some g.ns.length
      · have hk' : ¬ g.wr.1 ≠ some g.ns.length := by simpa using hk
        rw [if_neg hk', if_neg hk']
        rw [hR] at hr
        rw [wk_max (by omega) (by rw [wk_eq]; exact hk), setsE_eq]
        by_cases hm : 40 < g.wr.2
        · simp [hm]
        · simp [hm]
      · simp [hk]
    · simp [hn]
end
end Go.Proofs.Ytbfeaikiiamhaaa.Rc

/- H_D13 -/
namespace Go.Proofs.Ytbfeaikiiamhaaa.Rc
open Go.Ab
theorem hm' : Try.prog.follows .mixedOrders = true := Try.checked.mixed
end Go.Proofs.Ytbfeaikiiamhaaa.Rc

/- H_D14 -/
namespace Go.Proofs.Ytbfeaikiiamhaaa.Rc
open Go.Ab
/-- Cells of nodes whose rows are our own. -/
def NO (b : Nat) (M : List AO) : List Nd → List SV → Prop
  | [], cs => cs = []
  | x :: r, cs => ∃ p1 p2 p3 rest, cs = i64 x.k :: i64 x.p :: i64 x.i :: .own (b + p1) 0 x.nx.length 1 2 :: .own (b + p2) 0 x.ws.length 1 2 :: .own (b + p3) 0 x.ps.length 1 2 :: rest ∧
      M[p1]? = some (⟨ints x.nx, 3, 2, true⟩ : AO) ∧ M[p2]? = some (⟨ints x.ws, 3, 2, true⟩ : AO) ∧ M[p3]? = some (⟨ints x.ps, 3, 2, true⟩ : AO) ∧ NO b M r rest
theorem NO.mono {b : Nat} {M M' : List AO} (h : ∀ (p : Nat) (l : List Int), M[p]? = some (⟨ints l, 3, 2, true⟩ : AO) → M'[p]? = some (⟨ints l, 3, 2, true⟩ : AO)) : ∀ {l : List Nd} {cs : List SV}, NO b M l cs → NO b M' l cs
  | [], cs, hn => hn
  | x :: r, cs, ⟨p1, p2, p3, rest, h0, h1, h2, h3, h4⟩ => ⟨p1, p2, p3, rest, h0, h _ _ h1, h _ _ h2, h _ _ h3, NO.mono h h4⟩
theorem NO.snoc {b : Nat} {M : List AO} {x : Nd} {p1 p2 p3 : Nat} (h1 : M[p1]? = some ⟨ints x.nx, 3, 2, true⟩) (h2 : M[p2]? = some ⟨ints x.ws, 3, 2, true⟩) (h3 : M[p3]? = some ⟨ints x.ps, 3, 2, true⟩) :
    ∀ {l : List Nd} {cs : List SV}, NO b M l cs → NO b M (l ++ [x]) (cs ++ [i64 x.k, i64 x.p, i64 x.i, .own (b + p1) 0 x.nx.length 1 2, .own (b + p2) 0 x.ws.length 1 2, .own (b + p3) 0 x.ps.length 1 2])
  | [], cs, hn => by
    cases hn
    exact ⟨p1, p2, p3, [], rfl, h1, h2, h3, rfl⟩
  | y :: r, cs, ⟨q1, q2, q3, rest, h0, k1, k2, k3, h4⟩ => by
    subst h0
    exact ⟨q1, q2, q3, _, rfl, k1, k2, k3, NO.snoc h1 h2 h3 h4⟩
theorem NO.len {b : Nat} {M : List AO} : ∀ {l : List Nd} {cs : List SV}, NO b M l cs → cs.length = 6 * l.length
  | [], cs, hn => by cases hn; rfl
  | x :: r, cs, ⟨p1, p2, p3, rest, h0, h1, h2, h3, h4⟩ => by subst h0; simp [NO.len h4]; omega
theorem NO.cell {b : Nat} {M : List AO} : ∀ {l : List Nd} {cs : List SV}, NO b M l cs → cellsOk cs
  | [], cs, hn => by cases hn; intro s hs; simp at hs
  | x :: r, cs, ⟨p1, p2, p3, rest, h0, h1, h2, h3, h4⟩ => by
    subst h0
    intro s hs
    simp only [List.mem_cons] at hs
    rcases hs with rfl | rfl | rfl | rfl | rfl | rfl | hs
    · rfl
    · rfl
    · rfl
    · rfl
    · rfl
    · rfl
    · exact NO.cell h4 s hs
theorem NO.fz {b n k d : Nat} {M F : List AO} (hb : b = n + k) (hF : ∀ p, F[k + p]? = M[p]?) : ∀ {l : List Nd} {cs : List SV}, NO b M l cs → cs.map (SV.fz n [] F (d + 2)) = nds l
  | [], cs, hn => by cases hn; rfl
  | x :: r, cs, ⟨p1, p2, p3, rest, h0, h1, h2, h3, h4⟩ => by
    subst h0
    have e : ∀ p, b + p = n + (k + p) := fun p => by omega
    simp only [List.map_cons, NO.fz hb hF h4, nds, Nd.cells, e, fz_own, hF, h1, h2, h3, placeOf, fz_i64]
    simp [sl]
section
variable {H : List AO} {g : Gm}
theorem len_addn (H : List AO) (k n : Nat) : H.length + k + n = H.length + (k + n) := Nat.add_assoc ..
theorem infs_cell : ∀ l : List (Int × Int), cellsOk (infs l)
  | [] => fun s hs => by simp [infs] at hs
  | x :: r => fun s hs => by
    simp only [infs, List.mem_cons] at hs
    rcases hs with rfl | rfl | hs
    · rfl
    · rfl
    · exact infs_cell r s hs
def nodesV (b i : Nat) : SV := if i = 0 then nl else .own b 0 i 6 i
set_option maxRecDepth 10000 in
theorem loop11 (hn : g.ns.length ≤ 100000) (hx : ∀ x ∈ g.ns, x.nx.length * 8 ≤ 140737488352000 ∧ x.ws.length * 8 ≤ 140737488352000 ∧ x.ps.length * 8 ≤ 140737488352000) {N : Nat} {K : XE → Env → List AO → Prop} {B C : AO}
    (hexit : ∀ env M, (g.ns.length = 0 ∨ ∃ cs, M[5]? = some ⟨cs, 39, g.ns.length, true⟩ ∧ NO (H.length + 4) M g.ns cs) → env.get 2 = .ptr (.own (H.length + 1) 0 0 0 0) 0 → env.get 3 = .ptr (.own (H.length + 3) 0 0 0 1) 0 →
      K (.exit 0) env (H ++ gbox g :: B :: C :: ⟨[i64 g.pl, nodesV (H.length + 9) g.ns.length, .own (H.length + 2) 0 g.is.length 2 2], 25, 1, true⟩ :: M)) :
    ∀ (n i : Nat) (env : Env) (M : List AO), i + n = g.ns.length → ((i = 0 ∧ M = []) ∨ (0 < i ∧ ∃ cs, M[5]? = some ⟨cs, 39, i, true⟩ ∧ NO (H.length + 4) M (g.ns.take i) cs)) →
      env.get 1 = .ptr (.own H.length 0 0 0 0) 0 → env.get 2 = .ptr (.own (H.length + 1) 0 0 0 0) 0 → env.get 3 = .ptr (.own (H.length + 3) 0 0 0 1) 0 → env.get 4 = i64 i →
      LI Try.prog N drawB l12_0 env (H ++ gbox g :: B :: C :: ⟨[i64 g.pl, nodesV (H.length + 9) i, .own (H.length + 2) 0 g.is.length 2 2], 25, 1, true⟩ :: M) K := by
  intro n
  induction n with
  | zero =>
    intro i env M hi hM h1 h2 h3 h4
    refine li_go hm l12_0.eq_1 ?_
    have e : i = g.ns.length := by omega
    subst e
    simp -implicitDefEqProofs [h1, h4, gbox]
    refine hexit _ _ ?_ (by simp [h2]) (by simp [h3])
    rcases hM with ⟨h, _⟩ | ⟨_, cs, h, h'⟩
    · exact .inl h
    · exact .inr ⟨cs, h, by rwa [List.take_length] at h'⟩
  | succ n ih =>
    intro i env M hi hM h1 h2 h3 h4
    refine li_go hm l12_0.eq_1 ?_
    have hlt : i < g.ns.length := by omega
    have hxi := hx _ (List.getElem_mem hlt)
    have w1 : IntKind.i64.wrap ((i : Int) + 1) = ((i + 1 : Nat) : Int) := wrap_succ (by omega)
    have htake : g.ns.take (i + 1) = g.ns.take i ++ [g.ns[i]] := List.take_succ_eq_append_getElem hlt
    rcases hM with ⟨rfl, rfl⟩ | ⟨hi0, cs, hM5, hNO⟩
    · simp -implicitDefEqProofs [h1, h3, h4, gbox, hlt, nds_at hlt, nds_min hlt, nds_ge hlt, sl, nodesV]
      refine ⟨by omega, by omega, by omega, by omega, by omega, by omega, ?_⟩
      refine ih 1 _ _ (by omega) (.inr ⟨by omega, _, by rfl, ?_⟩) ?_ ?_ ?_ ?_
      · rw [htake]
        have := NO.snoc (b := H.length + 4) (M := [⟨[i64 g.ns[0].k, i64 g.ns[0].p, i64 g.ns[0].i, SV.own (H.length + 5) 0 g.ns[0].nx.length 1 2, SV.own (H.length + 6) 0 g.ns[0].ws.length 1 2, SV.own (H.length + 7) 0 g.ns[0].ps.length 1 2], 39, 0, true⟩,
          ⟨ints g.ns[0].nx, 3, 2, true⟩, ⟨ints g.ns[0].ws, 3, 2, true⟩, ⟨ints g.ns[0].ps, 3, 2, true⟩]) (x := g.ns[0]) (p1 := 1) (p2 := 2) (p3 := 3) rfl rfl rfl (l := []) (cs := []) rfl
        refine NO.mono (fun p l h => ?_) this
        have hp := getElem?_lt h
        exact (List.getElem?_append_left (l₂ := [_, _]) hp).trans h
      · simp
      · simp [h2]
      · simp
      · simp; rfl
    · have e5 : nodesV (H.length + 9) i = .own (H.length + 9) 0 i 6 i := by unfold nodesV; rw [if_neg (by omega)]
      have e6 : nodesV (H.length + 9) (i + 1) = .own (H.length + 9) 0 (i + 1) 6 (i + 1) := by unfold nodesV; rw [if_neg (by omega)]
      rw [e5]
      have hcl : cs.length = 6 * i := by rw [hNO.len, List.length_take, Nat.min_eq_left (by omega)]
      simp -implicitDefEqProofs [h1, h3, h4, gbox, hlt, nds_at hlt, nds_min hlt, nds_ge hlt, sl, setObj_old hM5, objIs_old hM5, objCells_set0, objCells_setk, len_addn]
      refine ⟨by omega, by omega, by omega, by omega, by omega, by omega, by omega, by omega, by omega, ?_⟩
      rw [w1]
      have hmlen := getElem?_lt hM5
      have hNO' : ∀ (o y w : AO), NO (H.length + 4) (M.set 5 o ++ [y, ⟨ints g.ns[i].nx, 3, 2, true⟩, ⟨ints g.ns[i].ws, 3, 2, true⟩, ⟨ints g.ns[i].ps, 3, 2, true⟩, w]) (g.ns.take (i + 1))
          (cs ++ [i64 g.ns[i].k, i64 g.ns[i].p, i64 g.ns[i].i, SV.own (H.length + (M.length + 5)) 0 g.ns[i].nx.length 1 2, SV.own (H.length + (M.length + 6)) 0 g.ns[i].ws.length 1 2, SV.own (H.length + (M.length + 7)) 0 g.ns[i].ps.length 1 2]) := fun o y w => by
        rw [htake]
        have ge : ∀ t (v : AO), [y, ⟨ints g.ns[i].nx, 3, 2, true⟩, ⟨ints g.ns[i].ws, 3, 2, true⟩, ⟨ints g.ns[i].ps, 3, 2, true⟩, w][t]? = some v → (M.set 5 o ++ [y, ⟨ints g.ns[i].nx, 3, 2, true⟩, ⟨ints g.ns[i].ws, 3, 2, true⟩, ⟨ints g.ns[i].ps, 3, 2, true⟩, w])[M.length + t]? = some v := fun t v h => by
          rw [List.getElem?_append_right (by simp)]; simpa using h
        have h0 := hNO.mono (M' := M.set 5 o ++ [y, ⟨ints g.ns[i].nx, 3, 2, true⟩, ⟨ints g.ns[i].ws, 3, 2, true⟩, ⟨ints g.ns[i].ps, 3, 2, true⟩, w]) (fun p l h => by
          have hp5 : 5 ≠ p := fun e => by subst e; rw [hM5] at h; cases h
          rw [List.getElem?_append_left (by simpa using getElem?_lt h), List.getElem?_set_ne hp5]; exact h)
        have := NO.snoc (x := g.ns[i]) (ge 1 _ rfl) (ge 2 _ rfl) (ge 3 _ rfl) h0
        rwa [show H.length + 4 + (M.length + 1) = H.length + (M.length + 5) by omega, show H.length + 4 + (M.length + 2) = H.length + (M.length + 6) by omega, show H.length + 4 + (M.length + 3) = H.length + (M.length + 7) by omega] at this
      rw [← e6]
      refine ih (i + 1) _ _ (by omega) (.inr ⟨by omega, _, ?_, hNO' _ _ _⟩) ?_ ?_ ?_ ?_
      · rw [List.getElem?_append_left (by simpa using hmlen), List.getElem?_set_self hmlen]
      · simp
      · simp [h2]
      · simp
      · simp
set_option maxRecDepth 10000 in
theorem ok12 (hn : g.ns.length ≤ 100000) (hi : g.is.length * 16 ≤ 140737488352000) (hx : ∀ x ∈ g.ns, x.nx.length * 8 ≤ 140737488352000 ∧ x.ws.length * 8 ≤ 140737488352000 ∧ x.ps.length * 8 ≤ 140737488352000) :
    Ok Try.prog 12 [.agg g.cells] H (.ret (.agg [i64 g.pl, if g.ns.length = 0 then nl else .slc (nds g.ns) g.ns.length, .slc (infs g.is) g.is.length])) H := by
  refine ok_fn hm Try.func12 c12 (by simp) fun hcl => ?_
  simp -implicitDefEqProofs [i12, r12, Gm.cells, infs_len]
  have hinf : List.take (g.is.length * 2) (infs g.is) = infs g.is := List.take_of_length_le (by rw [infs_len]; omega)
  rw [hinf]
  refine ⟨by omega, infs_cell _, by omega, by omega, rfl, ?_⟩
  refine loop11 (g := g) hn hx (fun env M hM h2 h3 => ?_) g.ns.length 0 _ [] (by omega) (.inl ⟨rfl, rfl⟩) (by simp) (by simp) (by simp) (by simp)
  simp -implicitDefEqProofs [h2, h3, gbox]
  rcases hM with h0 | ⟨cs, hM5, hNO⟩
  · have e : nodesV (H.length + 9) g.ns.length = nl := by unfold nodesV; rw [if_pos h0]
    rw [e, if_pos (List.eq_nil_of_length_eq_zero h0)]
    refine ⟨rfl, cv_fz 5 hcl rfl ?_⟩
    simp [hinf, infs_len, Nat.mul_comm]
  · have hcs := hNO.len
    have hfz := hNO.fz (n := H.length) (k := 4) (d := 1) (F := gbox g :: (⟨[i64 g.pl, nodesV (H.length + 9) g.ns.length, SV.own (H.length + 2) 0 g.is.length 2 2], 25, 0, true⟩ : AO) :: ⟨infs g.is, 70, 2, true⟩ :: ⟨[i64 g.pl, nodesV (H.length + 9) g.ns.length, SV.own (H.length + 2) 0 g.is.length 2 2], 25, 1, true⟩ :: M) rfl
      (fun p => by rw [show 4 + p = p + 1 + 1 + 1 + 1 by omega]; simp)
    by_cases h0 : g.ns = []
    · rw [if_pos h0]
      have e : nodesV (H.length + 9) g.ns.length = nl := by unfold nodesV; rw [if_pos (by rw [h0]; rfl)]
      rw [e]
      refine ⟨rfl, cv_fz 5 hcl rfl ?_⟩
      simp [hinf, infs_len, Nat.mul_comm]
    · rw [if_neg h0]
      have e : nodesV (H.length + 9) g.ns.length = .own (H.length + 9) 0 g.ns.length 6 g.ns.length := by unfold nodesV; rw [if_neg (fun h => h0 (List.eq_nil_of_length_eq_zero h))]
      rw [e] at hfz ⊢
      refine ⟨rfl, cv_fz 5 hcl rfl ?_⟩
      simp [hinf, infs_len, Nat.mul_comm, hM5]
      rw [if_pos (by omega)]
      congr 1
      refine Eq.trans (List.take_of_length_le ?_) hfz
      rw [List.length_map]; omega
end
end Go.Proofs.Ytbfeaikiiamhaaa.Rc

/- H_D15 -/
namespace Go.Proofs.Ytbfeaikiiamhaaa.Rc
open Go.Ab
section
variable {H : List AO} {x y : SV} {l m : List Int}
theorem loop23 (hx : IsI H x l) (hy : IsI H y m) (hl : l.length < 4611686018427387904) (hlm : l.length = m.length) {N : Nat} {K : XE → Env → List AO → Prop}
    (hret : l ≠ m → ∀ env, env.get 4 = bl false → K .ret env H) (hexit : l = m → ∀ env, K (.exit 0) env H) :
    ∀ (n i : Nat) (env : Env), i + n = l.length → (∀ k (h : k < l.length), k < i → l[k] = m[k]'(by omega)) → env.get 0 = x → env.get 1 = y → env.get 5 = i64 i →
      LI Try.prog N drawB l22_0 env H K := by
  intro n
  induction n with
  | zero =>
    intro i env hi hp h0 h1 h5
    refine li_go hm l22_0.eq_1 ?_
    have e : i = l.length := by omega
    subst e
    simp -implicitDefEqProofs [h0, h1, h5, hx.vd, hx.ug, hx.sl, hx.len]
    exact hexit (List.ext_getElem hlm fun k h1 h2 => hp k h1 h1) _
  | succ n ih =>
    intro i env hi hp h0 h1 h5
    refine li_go hm l22_0.eq_1 ?_
    have hlt : i < l.length := by omega
    have hlt' : i < m.length := by omega
    simp -implicitDefEqProofs [h0, h1, h5, hlt, hlt', hx.vd, hx.ug, hx.sl, hx.len, hx.v hlt, hx.ok hlt, hy.vd, hy.ug, hy.sl, hy.len, hy.v hlt', hy.ok hlt']
    by_cases hc : l[i] = m[i]
    · rw [if_pos hc]
      refine ih (i + 1) _ (by omega) ?_ ?_ ?_ ?_
      rotate_left
      · simp [h0]
      · simp [h1]
      · simp [wrap_suc (show i < 9223372036854775807 by omega)]
      intro k hk hki
      by_cases e : k = i
      · subst e; exact hc
      · exact hp k hk (by omega)
    · rw [if_neg hc]
      exact hret (fun e => hc (by subst e; rfl)) _ (by simp)
theorem ok22 (hx : IsI H x l) (hy : IsI H y m) (hl : l.length < 4611686018427387904) : Ok Try.prog 22 [x, y] H (.ret (bl (decide (l = m)))) H := by
  refine ok_fn hm Try.func22 c22 (by simp) fun hcl => ?_
  by_cases hlm : l.length = m.length
  · simp -implicitDefEqProofs [i22, r22, hx.vd, hx.ug, hx.sl, hx.len, hy.vd, hy.ug, hy.sl, hy.len, hlm]
    refine loop23 hx hy hl hlm (fun hne env h4 => ?_) (fun he env => ?_) l.length 0 _ (by omega) (by omega) (by simp) (by simp) (by simp)
    · simp -implicitDefEqProofs [h4, hne]
      exact cv_id
    · simp -implicitDefEqProofs [he]
      exact cv_id
  · simp -implicitDefEqProofs [i22, r22, hx.vd, hx.ug, hx.sl, hx.len, hy.vd, hy.ug, hy.sl, hy.len, show ¬ ((l.length : Int) = m.length) by omega, hlm]
    have : l ≠ m := fun e => hlm (by rw [e])
    simp [this]
    exact cv_id
theorem ok22s (hx : IsI H x l) (hy : IsI H y l) (hl : l.length < 4611686018427387904) : Ok Try.prog 22 [x, y] H (.ret (bl true)) H := by simpa using ok22 hx hy hl
end
section
variable {H : List AO} {g : Gm} {x : Nd} {is : List (Int × Int)}
set_option maxRecDepth 10000 in
theorem loop42 (hl : is.length < 4611686018427387904) {N : Nat} {K : XE → Env → List AO → Prop} (hexit : ∀ env, K (.exit 0) env H) :
    ∀ (n i : Nat) (env : Env), i + n = is.length → env.get 0 = .slc (infs is) is.length → env.get 1 = .slc (infs is) is.length → env.get 5 = i64 i → LI Try.prog N drawB l40_0 env H K := by
  intro n
  induction n with
  | zero =>
    intro i env hi h0 h1 h5
    refine li_go hm l40_0.eq_1 ?_
    have e : i = is.length := by omega
    subst e
    simp -implicitDefEqProofs [h0, h1, h5]
    exact hexit _
  | succ n ih =>
    intro i env hi h0 h1 h5
    refine li_go hm l40_0.eq_1 ?_
    have hlt : i < is.length := by omega
    have w1 : IntKind.i64.wrap ((i : Int) + 1) = ((i + 1 : Nat) : Int) := wrap_succ (by omega)
    simp -implicitDefEqProofs [h0, h1, h5, hlt, infs_at hlt, infs_min hlt, infs_ge hlt]
    rw [w1]
    exact ih (i + 1) _ (by omega) (by simp) (by simp) (by simp)
theorem ok40 (hl : is.length < 4611686018427387904) : Ok Try.prog 40 [.slc (infs is) is.length, .slc (infs is) is.length] H (.ret (bl true)) H := by
  refine ok_fn hm Try.func40 c40 (by simp) fun hcl => ?_
  simp -implicitDefEqProofs [i40, r40]
  refine loop42 (is := is) hl (fun env => ?_) is.length 0 _ (by omega) (by simp) (by simp) (by simp)
  simp -implicitDefEqProofs
  exact cv_id
theorem isc (H : List AO) (l : List Int) : IsI H (.slc (ints l) l.length) l := IsI.slc H l
set_option maxRecDepth 10000 in
theorem ok41 (h1 : x.nx.length < 4611686018427387904) (h2 : x.ws.length < 4611686018427387904) (h3 : x.ps.length < 4611686018427387904) : Ok Try.prog 41 [.agg x.cells, .agg x.cells] H (.ret (bl true)) H := by
  refine ok_fn hm Try.func41 c41 (by simp) fun hcl => ?_
  simp -implicitDefEqProofs [i41, r41, Nd.cells, sl]
  refine callq_st (fun _ => ok22s (l := x.nx) (isc _ _) (isc _ _) h1) ?_
  simp -implicitDefEqProofs
  refine callq_st (fun _ => ok22s (l := x.ws) (isc _ _) (isc _ _) h2) ?_
  simp -implicitDefEqProofs
  refine callq_st (fun _ => ok22s (l := x.ps) (isc _ _) (isc _ _) h3) ?_
  simp -implicitDefEqProofs
  exact cv_fz 1 hcl rfl (by simp)
/-- The nodes of a copy: no row where there are none. -/
def nsv (g : Gm) : SV := if g.ns = [] then nl else .slc (nds g.ns) g.ns.length
theorem nsv_nil (h : g.ns = []) : nsv g = nl := if_pos h
theorem nsv_ne (h : g.ns ≠ []) : nsv g = .slc (nds g.ns) g.ns.length := if_neg h
theorem ok33 : Ok Try.prog 33 [.agg g.cells] H (.ret (i64 g.formE)) H := by
  refine ok_fn hm Try.func33 c33 (by simp) fun hcl => ?_
  simp -implicitDefEqProofs [i33, r33, Gm.cells]
  have hh := fun H => ok49 (H := H) (g := g)
  simp only [Gm.cells] at hh
  refine call_go (hh _) ?_
  unfold Gm.walked Gm.formE
  by_cases h : g.err0 = 0
  · simp -implicitDefEqProofs [h]
    exact cv_fz 1 hcl rfl (by simp)
  · simp -implicitDefEqProofs [h]
    exact cv_fz 1 hcl rfl (by simp)
end
end Go.Proofs.Ytbfeaikiiamhaaa.Rc

/- H23 -/
namespace Go.Proofs.Ytbfeaikiiamhaaa.Rc
open Go.Ab
theorem sum_rng : ∀ {l : List Int}, (∀ w ∈ l, 0 ≤ w ∧ w ≤ 1000) → 0 ≤ l.sum ∧ l.sum ≤ 1000 * (l.length : Int)
  | [], _ => by simp
  | x :: l, h => by
    have h1 := h x (by simp)
    have h2 := sum_rng (l := l) fun w hw => h w (by simp [hw])
    simp only [List.sum_cons, List.length_cons]; omega
section
variable {H : List AO} {x : SV} {l : List Int}
theorem loop38 (hx : IsI H x l) (hb : ∀ w ∈ l, 0 ≤ w ∧ w ≤ 1000) (hl : l.length ≤ 100) {N : Nat} {K : XE → Env → List AO → Prop} (hexit : ∀ env, env.get 3 = i64 l.sum → K (.exit 0) env H) :
    ∀ (n i : Nat) (env : Env), i + n = l.length → env.get 3 = i64 (l.take i).sum → env.get 6 = x → env.get 7 = i64 l.length → env.get 8 = i64 i → LI Try.prog N drawB l38_0 env H K := by
  intro n
  induction n with
  | zero =>
    intro i env hi h3 h6 h7 h8
    refine li_go hm l38_0.eq_1 ?_
    have e : i = l.length := by omega
    subst e
    rw [List.take_length] at h3
    simp -implicitDefEqProofs [h3, h6, h7, h8]
    exact hexit _ (by simp [h3])
  | succ n ih =>
    intro i env hi h3 h6 h7 h8
    refine li_go hm l38_0.eq_1 ?_
    have hlt : i < l.length := by omega
    have hw := hb _ (List.getElem_mem hlt)
    have hs := sum_rng (l := l.take i) fun w hw => hb w (List.mem_of_mem_take hw)
    have hll : (l.take i).length = i := by simp; omega
    have w1 : IntKind.i64.wrap ((l.take i).sum + l[i]) = (l.take (i + 1)).sum := by rw [List.take_succ_eq_append_getElem hlt, List.sum_append]; simp only [List.sum_cons, List.sum_nil, Int.add_zero]; exact wrap_id (by omega) (by omega)
    simp -implicitDefEqProofs [h3, h6, h7, h8, hlt, hx.vd, hx.ug, hx.sl, hx.len, hx.v hlt, hx.ok hlt, w1, wrap_suc (show i < 9223372036854775807 by omega)]
    repeat (refine ⟨by omega, ?_⟩)
    refine ih (i + 1) _ (by omega) ?_ ?_ ?_ ?_ <;> simp [h6, h7]
theorem ok38 (hx : IsI H x l) (hb : ∀ w ∈ l, 0 ≤ w ∧ w ≤ 1000) (hl : l.length ≤ 100) : Ok Try.prog 38 [x] H (.ret (i64 l.sum)) H := by
  refine ok_fn hm Try.func38 c38 (by simp) fun hcl => ?_
  simp -implicitDefEqProofs [i38, r38, hx.vd, hx.ug, hx.sl, hx.len]
  refine loop38 hx hb hl (fun env k3 => ?_) l.length 0 _ (by omega) ?_ ?_ ?_ ?_
  · simp -implicitDefEqProofs [k3]
    exact cv_id
  all_goals simp
theorem loop36 (hx : IsI H x l) (hb : ∀ w ∈ l, 0 ≤ w ∧ w ≤ 1000) (hl : l.length ≤ 100) {N : Nat} {K : XE → Env → List AO → Prop} (hexit : ∀ env, env.get 3 = i64 l.sum → K (.exit 0) env H) :
    ∀ (n i : Nat) (env : Env), i + n = l.length → env.get 3 = i64 (l.take i).sum → env.get 0 = x → env.get 4 = i64 i → LI Try.prog N drawB l36_0 env H K := by
  intro n
  induction n with
  | zero =>
    intro i env hi h3 h0 h4
    refine li_go hm l36_0.eq_1 ?_
    have e : i = l.length := by omega
    subst e
    rw [List.take_length] at h3
    simp -implicitDefEqProofs [h3, h0, h4, hx.vd, hx.ug, hx.sl, hx.len]
    exact hexit _ (by simp [h3])
  | succ n ih =>
    intro i env hi h3 h0 h4
    refine li_go hm l36_0.eq_1 ?_
    have hlt : i < l.length := by omega
    have hw := hb _ (List.getElem_mem hlt)
    have hs := sum_rng (l := l.take i) fun w hw => hb w (List.mem_of_mem_take hw)
    have hll : (l.take i).length = i := by simp; omega
    have w1 : IntKind.i64.wrap ((l.take i).sum + l[i]) = (l.take (i + 1)).sum := by rw [List.take_succ_eq_append_getElem hlt, List.sum_append]; simp only [List.sum_cons, List.sum_nil, Int.add_zero]; exact wrap_id (by omega) (by omega)
    simp -implicitDefEqProofs [h3, h0, h4, hlt, hx.vd, hx.ug, hx.sl, hx.len, hx.v hlt, hx.ok hlt, w1, wrap_suc (show i < 9223372036854775807 by omega)]
    repeat (refine ⟨by omega, ?_⟩)
    refine ih (i + 1) _ (by omega) ?_ ?_ ?_ <;> simp [h0]
theorem ok36 (hx : IsI H x l) (hb : ∀ w ∈ l, 0 ≤ w ∧ w ≤ 1000) (hl : l.length ≤ 100) : Ok Try.prog 36 [x] H (.ret (i64 l.sum)) H := by
  refine ok_fn hm Try.func36 c36 (by simp) fun hcl => ?_
  simp -implicitDefEqProofs [i36, r36, hx.vd, hx.ug, hx.sl, hx.len]
  refine loop36 hx hb hl (fun env k3 => ?_) l.length 0 _ (by omega) ?_ ?_ ?_
  · simp -implicitDefEqProofs [k3]
    exact cv_id
  all_goals simp
theorem loop54 {N : Nat} {K : XE → Env → List AO → Prop} {g : Nat} (hexit : ∀ env, env.get 0 = i64 g → K (.exit 0) env H) :
    ∀ (b a : Nat) (env : Env), Nat.gcd a b = g → env.get 0 = i64 a → env.get 1 = i64 b → LI Try.prog N drawB l54_0 env H K := by
  intro b
  induction b using Nat.strongRecOn with
  | ind b ih =>
    intro a env hg h0 h1
    refine li_go hm l54_0.eq_1 ?_
    by_cases hb : b = 0
    · subst hb
      simp -implicitDefEqProofs [h0, h1]
      exact hexit _ (by simp [h0, ← hg])
    · have hpos : 0 < b := by omega
      have t : (a : Int).tmod b = ((a % b : Nat) : Int) := by rw [Int.tmod_eq_emod_of_nonneg (by omega)]; rfl
      have hgg : Nat.gcd b (a % b) = g := by rw [← hg, Nat.gcd_comm a b, Nat.gcd_rec b a, Nat.gcd_comm]
      have hstep := fun env => ih (a % b) (Nat.mod_lt _ hpos) b env hgg
      simp -implicitDefEqProofs [h0, h1, hpos, t, hb, pickI]
      repeat' apply And.intro
      all_goals (refine hstep _ ?_ ?_ <;> simp [Env.keep, dreK])
theorem ok54 (a b : Nat) : Ok Try.prog 54 [i64 a, i64 b] H (.ret (i64 (Nat.gcd a b))) H := by
  refine ok_fn hm Try.func54 c54 (by simp) fun hcl => ?_
  simp -implicitDefEqProofs [i54, r54]
  refine loop54 (g := Nat.gcd a b) (fun env k0 => ?_) b a _ rfl ?_ ?_
  · simp -implicitDefEqProofs [k0]
    exact cv_id
  all_goals simp
/-- The least common multiple, if it is no greater than 10^15. -/
def lcmO (m p : Nat) : Option Nat := if 1000000000000000 < Nat.lcm m p then none else some (Nat.lcm m p)
theorem gcd_facts {m p : Nat} (hm : 1 ≤ m) (hp : 1 ≤ p) : 1 ≤ Nat.gcd m p ∧ m / Nat.gcd m p * p = Nat.lcm m p ∧ m * (p / Nat.gcd m p) = Nat.lcm m p ∧ 1 ≤ p / Nat.gcd m p ∧ 1 ≤ m / Nat.gcd m p := by
  have hg : 0 < Nat.gcd m p := Nat.gcd_pos_of_pos_left _ (by omega)
  obtain ⟨u, hu⟩ := Nat.gcd_dvd_left m p
  obtain ⟨v, hv⟩ := Nat.gcd_dvd_right m p
  have h1 : m / Nat.gcd m p = u := by
    conv => lhs; lhs; rw [hu]
    exact Nat.mul_div_cancel_left u hg
  have h2 : p / Nat.gcd m p = v := by
    conv => lhs; lhs; rw [hv]
    exact Nat.mul_div_cancel_left v hg
  have h3 : Nat.lcm m p = Nat.gcd m p * u * v := by
    have e : m * p = Nat.gcd m p * (Nat.gcd m p * u * v) := by
      calc m * p = (Nat.gcd m p * u) * (Nat.gcd m p * v) := by rw [← hu, ← hv]
        _ = _ := by ac_rfl
    unfold Nat.lcm
    rw [e]
    exact Nat.mul_div_cancel_left _ hg
  rw [h1, h2, h3]
  have hu0 : u ≠ 0 := by rintro rfl; simp at hu; omega
  have hv0 : v ≠ 0 := by rintro rfl; simp at hv; omega
  refine ⟨hg, ?_, ?_, by omega, by omega⟩
  · conv => lhs; rhs; rw [hv]
    ac_rfl
  · conv => lhs; lhs; rw [hu]
theorem ok37 {m p : Nat} (h1 : 1 ≤ m) (h2 : m ≤ 1000000000000000) (h3 : 1 ≤ p) (h4 : p ≤ 1000000000000000) :
    Ok Try.prog 37 [i64 m, i64 p] H (.ret (match lcmO m p with | none => .tup [i64 0, bl false] | some n => .tup [i64 n, bl true])) H := by
  obtain ⟨g1, g2, g3, g4, g5⟩ := gcd_facts h1 h3
  refine ok_fn hm Try.func37 c37 (by simp) fun hcl => ?_
  have t1 : (m : Int).tdiv (Nat.gcd m p) = ((m / Nat.gcd m p : Nat) : Int) := by rw [Int.tdiv_eq_ediv_of_nonneg (by omega)]; rfl
  have t2 : (1000000000000000 : Int).tdiv p = ((1000000000000000 / p : Nat) : Int) := by rw [Int.tdiv_eq_ediv_of_nonneg (by omega)]; rfl
  have b1 : m / Nat.gcd m p ≤ m := Nat.div_le_self _ _
  have b2 : 1000000000000000 / p ≤ 1000000000000000 := Nat.div_le_self _ _
  have w1 : IntKind.i64.wrap ((m / Nat.gcd m p : Nat) : Int) = ((m / Nat.gcd m p : Nat) : Int) := wrap_nat (by omega)
  have w2 : IntKind.i64.wrap ((1000000000000000 / p : Nat) : Int) = ((1000000000000000 / p : Nat) : Int) := wrap_nat (by omega)
  have hlt : 1000000000000000 / p < m / Nat.gcd m p ↔ 1000000000000000 < Nat.lcm m p := by rw [Nat.div_lt_iff_lt_mul (by omega), g2]
  generalize hu : m / Nat.gcd m p = u at *
  generalize hq : 1000000000000000 / p = q at *
  simp -implicitDefEqProofs [i37, r37]
  refine call_go (ok54 m p) ?_
  simp -implicitDefEqProofs [t1, t2, w1, w2]
  refine ⟨by omega, by omega, ?_⟩
  by_cases hc : 1000000000000000 < Nat.lcm m p
  · rw [if_pos (hlt.2 hc)]
    simp only [lcmO, if_pos hc]
    exact cv_id
  · rw [if_neg (fun h => hc (hlt.1 h))]
    have w3 : IntKind.i64.wrap ((u : Int) * p) = ((Nat.lcm m p : Nat) : Int) := by
      have e : (u : Int) * p = ((Nat.lcm m p : Nat) : Int) := by rw [← g2]; push_cast; rfl
      rw [e]; exact wrap_nat (by omega)
    simp only [lcmO, if_neg hc, w3]
    exact cv_id
/-- What visits write to. -/
def scn (g : Gm) (m : Nat) (over : Bool) : AO := ⟨[i64 g.pl, .slc (nds g.ns) g.ns.length, .slc (infs g.is) g.is.length, i64 m, bl over], 63, 0, true⟩
theorem loop50 {N : Nat} {K : XE → Env → List AO → Prop} {g : Nat} {e0 e1 : SV} (hexit : ∀ env, env.get 0 = e0 → env.get 1 = e1 → env.get 4 = i64 g → K (.exit 0) env H) :
    ∀ (b a : Nat) (env : Env), Nat.gcd a b = g → env.get 0 = e0 → env.get 1 = e1 → env.get 4 = i64 a → env.get 5 = i64 b → LI Try.prog N drawB l50_0 env H K := by
  intro b
  induction b using Nat.strongRecOn with
  | ind b ih =>
    intro a env hg h0 h1 h4 h5
    refine li_go hm l50_0.eq_1 ?_
    by_cases hb : b = 0
    · subst hb
      simp -implicitDefEqProofs [h0, h1, h4, h5]
      exact hexit _ (by simp [h0]) (by simp [h1]) (by simp [h4, ← hg])
    · have hpos : 0 < b := by omega
      have t : (a : Int).tmod b = ((a % b : Nat) : Int) := by rw [Int.tmod_eq_emod_of_nonneg (by omega)]; rfl
      have hgg : Nat.gcd b (a % b) = g := by rw [← hg, Nat.gcd_comm a b, Nat.gcd_rec b a, Nat.gcd_comm]
      have hstep := fun env => ih (a % b) (Nat.mod_lt _ hpos) b env hgg
      simp -implicitDefEqProofs [h0, h1, h4, h5, hpos, t, hb, pickI]
      repeat' apply And.intro
      all_goals (refine hstep _ ?_ ?_ ?_ ?_ <;> simp [Env.keep, dreK])
theorem ok50 {g : Gm} {j m p : Nat} (ho : H[j]? = some (scn g m false)) (h1 : 1 ≤ m) (h2 : m ≤ 1000000000000000) (h3 : 1 ≤ p) (h4 : p ≤ 1000000000000000) :
    Ok Try.prog 50 [.ptr (.own j 0 0 0 0) 0, i64 p] H (.ret (.tup [])) (H.set j (match lcmO m p with | none => scn g m true | some n => scn g n false)) := by
  obtain ⟨g1, g2, g3, g4, g5⟩ := gcd_facts h1 h3
  have hj := getElem?_lt ho
  refine ok_fn hm Try.func50 c50 (by simp) fun hcl => ?_
  have e1 : objCells H j 0 = (scn g m false).cells := objCells_of (o := scn g m false) ho rfl
  have e2 : ∀ f : AO → AO, Ab.setObj H j f = H.set j (f (scn g m false)) := fun f => setObj_some ho f
  have t1 : (p : Int).tdiv (Nat.gcd m p) = ((p / Nat.gcd m p : Nat) : Int) := by rw [Int.tdiv_eq_ediv_of_nonneg (by omega)]; rfl
  have b1 : p / Nat.gcd m p ≤ p := Nat.div_le_self _ _
  have w1 : IntKind.i64.wrap ((p / Nat.gcd m p : Nat) : Int) = ((p / Nat.gcd m p : Nat) : Int) := wrap_nat (by omega)
  have g1' : ¬ Nat.gcd m p = 0 := by omega
  generalize hu : p / Nat.gcd m p = u at *
  have t2 : (1000000000000000 : Int).tdiv u = ((1000000000000000 / u : Nat) : Int) := by rw [Int.tdiv_eq_ediv_of_nonneg (by omega)]; rfl
  have b2 : 1000000000000000 / u ≤ 1000000000000000 := Nat.div_le_self _ _
  have w2 : IntKind.i64.wrap ((1000000000000000 / u : Nat) : Int) = ((1000000000000000 / u : Nat) : Int) := wrap_nat (by omega)
  have hlt : 1000000000000000 / u < m ↔ 1000000000000000 < Nat.lcm m p := by rw [Nat.div_lt_iff_lt_mul (by omega), g3]
  generalize hq : 1000000000000000 / u = q at *
  simp -implicitDefEqProofs [i50, r50, e1, scn]
  refine loop50 (g := Nat.gcd m p) (e0 := .ptr (.own j 0 0 0 0) 0) (e1 := i64 p) (fun env k0 k1 k4 => ?_) p m _ rfl ?_ ?_ ?_ ?_
  · simp -implicitDefEqProofs [k0, k1, k4, t1, w1, t2, w2, e1, e2, scn, g1']
    refine ⟨by omega, ?_⟩
    by_cases hc : 1000000000000000 < Nat.lcm m p
    · rw [if_pos (hlt.2 hc)]
      simp only [lcmO, if_pos hc]
      exact cv_id
    · rw [if_neg (fun h => hc (hlt.1 h))]
      have w3 : IntKind.i64.wrap ((m : Int) * u) = ((Nat.lcm m p : Nat) : Int) := by
        have e : (m : Int) * u = ((Nat.lcm m p : Nat) : Int) := by rw [← g3]; push_cast; rfl
        rw [e]; exact wrap_nat (by omega)
      simp only [lcmO, if_neg hc, w3]
      exact cv_id
  all_goals simp
end
end Go.Proofs.Ytbfeaikiiamhaaa.Rc

/- H24 -/
namespace Go.Proofs.Ytbfeaikiiamhaaa.Rc
open Go.Ab
def viss (w : Nat → Nat → Nat → Option Nat) : List Int → Nat → Nat → Option Nat
  | [], _, m => some m
  | c :: cs, p, m => match w c.toNat p m with | none => none | some m => viss w cs p m
def vis (ns : List Nd) : Nat → Nat → Nat → Nat → Option Nat
  | 0, _, _, m => some m
  | f + 1, k, p, m =>
    match ns[k]? with
    | none => some m
    | some x =>
      if x.k = 3 then lcmO m p
      else if x.k = 1 then (if 1000000000000000 / x.ws.sum.toNat < p then none else viss (vis ns f) x.nx (p * x.ws.sum.toNat) m)
      else viss (vis ns f) x.nx p m
theorem lcmO_rng {m p n : Nat} (hm : 1 ≤ m) (hp : 1 ≤ p) (h : lcmO m p = some n) : 1 ≤ n ∧ n ≤ 1000000000000000 := by
  unfold lcmO at h
  split at h
  · cases h
  · cases h
    have : 0 < Nat.lcm m p := Nat.lcm_pos (by omega) (by omega)
    omega
theorem viss_rng {w : Nat → Nat → Nat → Option Nat} (hw : ∀ k p m n, 1 ≤ m → m ≤ 1000000000000000 → 1 ≤ p → w k p m = some n → 1 ≤ n ∧ n ≤ 1000000000000000) :
    ∀ (cs : List Int) (p m n : Nat), 1 ≤ m → m ≤ 1000000000000000 → 1 ≤ p → viss w cs p m = some n → 1 ≤ n ∧ n ≤ 1000000000000000
  | [], p, m, n, h1, h2, h3, h => by simp only [viss, Option.some.injEq] at h; omega
  | c :: cs, p, m, n, h1, h2, h3, h => by
    simp only [viss] at h
    cases hc : w c.toNat p m with
    | none => rw [hc] at h; cases h
    | some m1 =>
      rw [hc] at h
      have := hw _ _ _ _ h1 h2 h3 hc
      exact viss_rng hw cs p m1 n this.1 this.2 h3 h
theorem vis_rng {ns : List Nd} (hs : ∀ x ∈ ns, x.k = 1 → 1 ≤ x.ws.sum) : ∀ (f k p m n : Nat), 1 ≤ m → m ≤ 1000000000000000 → 1 ≤ p → vis ns f k p m = some n → 1 ≤ n ∧ n ≤ 1000000000000000
  | 0, k, p, m, n, h1, h2, h3, h => by simp only [vis, Option.some.injEq] at h; omega
  | f + 1, k, p, m, n, h1, h2, h3, h => by
    unfold vis at h
    split at h
    · simp only [Option.some.injEq] at h; omega
    · rename_i x hx
      split at h
      · exact lcmO_rng h1 h3 h
      · split at h
        · rename_i hk
          split at h
          · cases h
          · have h4 := hs x (List.mem_of_getElem? hx) hk
            have h5 : 1 * 1 ≤ p * x.ws.sum.toNat := Nat.mul_le_mul h3 (by omega)
            exact viss_rng (vis_rng hs f) _ _ _ _ h1 h2 (by omega) h
        · exact viss_rng (vis_rng hs f) _ _ _ _ h1 h2 h3 h
theorem within_mem {lo hi : Int} {l : List Int} (h : within lo hi l = 0) : ∀ w ∈ l, lo ≤ w ∧ w ≤ hi := by
  unfold within at h
  split at h
  · cases h
  · rename_i hh
    intro w hw
    have : ¬ outR lo hi w = true := fun h2 => hh (List.any_eq_true.2 ⟨w, hw, h2⟩)
    simp [outR] at this; omega
section
variable {g : Gm} {x : Nd}
theorem Gd.kk (h : Gd g) (hx : x ∈ g.ns) : 1 ≤ x.k ∧ x.k ≤ 3 := by
  have := h.e x hx
  unfold Nd.err at this
  split at this
  · cases this
  · omega
theorem Gd.ch (h : Gd g) (hx : x ∈ g.ns) (hk : x.k = 1) : 1 ≤ x.nx.length ∧ x.nx.length ≤ 60 ∧ x.ws.length = x.nx.length ∧ ∀ w ∈ x.ws, 1 ≤ w ∧ w ≤ 1000 := by
  have := h.e x hx
  unfold Nd.err at this
  rw [if_neg (by omega), if_pos hk] at this
  unfold Nd.chance at this
  split at this
  · cases this
  · exact ⟨by omega, by omega, by omega, within_mem this⟩
theorem Gd.en (h : Gd g) (hx : x ∈ g.ns) (hk : x.k = 3) : x.nx = [] ∧ x.ws = [] := by
  have := h.e x hx
  unfold Nd.err at this
  rw [if_neg (by omega), if_neg (by omega), if_neg (by omega)] at this
  unfold Nd.end at this
  split at this
  · cases this
  · exact ⟨List.eq_nil_of_length_eq_zero (by omega), List.eq_nil_of_length_eq_zero (by omega)⟩
theorem Gd.mv (h : Gd g) (hx : x ∈ g.ns) (hk : x.k = 2) : 1 ≤ x.nx.length ∧ x.nx.length ≤ 10 ∧ x.ws = [] := by
  have := h.e x hx
  unfold Nd.err at this
  rw [if_neg (by omega), if_neg (by omega), if_pos hk] at this
  unfold Nd.move at this
  split at this
  · cases this
  · exact ⟨by omega, by omega, List.eq_nil_of_length_eq_zero (by omega)⟩
theorem Gd.few (h : Gd g) (hx : x ∈ g.ns) : x.nx.length ≤ 60 ∧ x.ws.length ≤ 60 ∧ ∀ w ∈ x.ws, 0 ≤ w ∧ w ≤ 1000 := by
  have hk := h.kk hx
  by_cases h1 : x.k = 1
  · obtain ⟨a, b, c, d⟩ := h.ch hx h1
    exact ⟨b, by omega, fun w hw => by have := d w hw; omega⟩
  · by_cases h2 : x.k = 2
    · obtain ⟨a, b, c⟩ := h.mv hx h2
      exact ⟨by omega, by rw [c]; simp, by rw [c]; simp⟩
    · obtain ⟨a, b⟩ := h.en hx (by omega)
      exact ⟨by rw [a]; simp, by rw [b]; simp, by rw [b]; simp⟩
theorem sum_ge : ∀ {l : List Int}, (∀ w ∈ l, 1 ≤ w ∧ w ≤ 1000) → (l.length : Int) ≤ l.sum
  | [], _ => by simp
  | x :: l, h => by
    have h1 := h x (by simp)
    have h2 := sum_ge (l := l) fun w hw => h w (by simp [hw])
    simp only [List.sum_cons, List.length_cons]; omega
theorem Gd.sum (h : Gd g) (hx : x ∈ g.ns) (hk : x.k = 1) : 1 ≤ x.ws.sum ∧ x.ws.sum ≤ 60000 := by
  obtain ⟨a, b, c, d⟩ := h.ch hx hk
  have h1 := sum_ge d
  have h2 := sum_rng (l := x.ws) fun w hw => by have := d w hw; omega
  omega
/-- Children stand behind their parents. -/
def Fwd (ns : List Nd) : Prop := ∀ (k : Nat) (x : Nd), ns[k]? = some x → ∀ c ∈ x.nx, (k : Int) < c ∧ c < ns.length
/-- What a visit leaves. -/
def visP (g : Gm) (j : Nat) (H : List AO) (r : Option Nat) (H' : List AO) : Prop :=
  match r with
  | none => ∃ m, H' = H.set j (scn g m true)
  | some m => H' = H.set j (scn g m false)
section
variable {j : Nat} {G0 : List AO} {a : AO}
theorem loop34o {p : Nat} {l : List Int} (hl : l.length ≤ 60) {i m : Nat} {env : Env} {N : Nat} {K : XE → Env → List AO → Prop} (hj : j < G0.length) (hi : i ≤ l.length)
    (hret : ∀ env, K .ret env (G0.set j (scn g m true) ++ [a])) (hexit : ∀ env, K (.exit 1) env (G0.set j (scn g m true) ++ [a]))
    (h0 : env.get 0 = .ptr (.own j 0 0 0 0) 0) (h41 : env.get 41 = sl l) (h42 : env.get 42 = i64 l.length) (h43 : env.get 43 = i64 i) : LI Try.prog N drawB l34_0 env (G0.set j (scn g m true) ++ [a]) K := by
  refine li_go hm l34_0.eq_1 ?_
  by_cases h : i < l.length
  · simp -implicitDefEqProofs [h0, h41, h42, h43, h, sl, scn, objCells_hS hj]
    repeat (refine ⟨by omega, ?_⟩)
    exact hret _
  · simp -implicitDefEqProofs [h0, h41, h42, h43, h, sl]
    exact hexit _
theorem loop34 {f p : Nat} {l : List Int} (hl : l.length ≤ 60) (hp1 : 1 ≤ p) (hp2 : p ≤ 1000000000000000) (hsm : ∀ x ∈ g.ns, x.k = 1 → 1 ≤ x.ws.sum) (hc0 : ∀ c ∈ l, 0 ≤ c)
    (hrec : ∀ c ∈ l, ∀ (m : Nat) (H : List AO), 1 ≤ m → m ≤ 1000000000000000 → H[j]? = some (scn g m false) → OkP Try.prog 34 [.ptr (.own j 0 0 0 0) 0, i64 c, i64 p] H fun o H' => o = .ret (.tup []) ∧ visP g j H (vis g.ns f c.toNat p m) H')
    {r : Option Nat} {N : Nat} {K : XE → Env → List AO → Prop} (hj : j < G0.length)
    (hov : r = none → ∀ x env m, x = .ret ∨ x = .exit 1 → K x env (G0.set j (scn g m true) ++ [a])) (hexit : ∀ env m, r = some m → K (.exit 1) env (G0.set j (scn g m false) ++ [a])) :
    ∀ (n i m : Nat) (env : Env), i + n = l.length → 1 ≤ m → m ≤ 1000000000000000 → viss (vis g.ns f) (l.drop i) p m = r →
      env.get 0 = .ptr (.own j 0 0 0 0) 0 → env.get 2 = i64 p → env.get 41 = sl l → env.get 42 = i64 l.length → env.get 43 = i64 i → LI Try.prog N drawB l34_0 env (G0.set j (scn g m false) ++ [a]) K := by
  intro n
  induction n with
  | zero =>
    intro i m env hi h1 h2 hr h0 h2' h41 h42 h43
    refine li_go hm l34_0.eq_1 ?_
    have e : i = l.length := by omega
    subst e
    rw [List.drop_length] at hr
    simp -implicitDefEqProofs [h0, h2', h41, h42, h43]
    exact hexit _ m (by rw [← hr]; rfl)
  | succ n ih =>
    intro i m env hi h1 h2 hr h0 h2' h41 h42 h43
    refine li_go hm l34_0.eq_1 ?_
    have hlt : i < l.length := by omega
    have hmem : l[i] ∈ l := List.getElem_mem hlt
    have hc := hc0 _ hmem
    have hcall := hrec _ hmem m (G0.set j (scn g m false) ++ [a]) h1 h2 (get_hS hj _ _)
    have w1 : IntKind.i64.wrap ((i : Int) + 1) = ((i + 1 : Nat) : Int) := wrap_succ (by omega)
    rw [List.drop_eq_getElem_cons hlt] at hr
    simp only [viss] at hr
    simp -implicitDefEqProofs [h0, h2', h41, h42, h43, hlt, sl, scn, objCells_hS hj]
    repeat (refine ⟨by omega, ?_⟩)
    refine call_goP hcall ?_
    rintro o H' ⟨rfl, hv⟩
    cases hvis : vis g.ns f l[i].toNat p m with
    | none =>
      rw [hvis] at hr hv
      obtain ⟨m', rfl⟩ := hv
      simp -implicitDefEqProofs [h0, h2', h41, h42, h43, w1]
      rw [List.set_append_left _ _ (by simpa using hj), List.set_set]
      exact loop34o (g := g) (p := p) hl hj (i := i + 1) (by omega) (fun env => hov hr.symm _ env m' (.inl rfl)) (fun env => hov hr.symm _ env m' (.inr rfl)) (by simp [h0]) (by simp [h41, sl]) (by simp [h42]) (by simp)
    | some m1 =>
      rw [hvis] at hr hv
      have hv : H' = (G0.set j (scn g m false) ++ [a]).set j (scn g m1 false) := hv
      subst hv
      have hb := vis_rng hsm f _ p m m1 h1 h2 hp1 hvis
      simp -implicitDefEqProofs [h0, h2', h41, h42, h43, w1]
      rw [List.set_append_left _ _ (by simpa using hj), List.set_set]
      refine ih (i + 1) m1 _ (by omega) hb.1 hb.2 hr ?_ ?_ ?_ ?_ ?_ <;> simp [h0, h2', h41, h42, sl]
theorem ok34 (hg : Gd g) (hf : Fwd g.ns) : ∀ (f k p m : Nat) (H : List AO), k < g.ns.length → g.ns.length ≤ k + f → 1 ≤ p → p ≤ 1000000000000000 → 1 ≤ m → m ≤ 1000000000000000 → H[j]? = some (scn g m false) →
    OkP Try.prog 34 [.ptr (.own j 0 0 0 0) 0, i64 k, i64 p] H fun o H' => o = .ret (.tup []) ∧ visP g j H (vis g.ns f k p m) H' := by
  intro f
  induction f with
  | zero => intro k p m H hk hkf; omega
  | succ f ih =>
    intro k p m H hk hkf hp1 hp2 hm1 hm2 ho
    have hj := getElem?_lt ho
    have hmem := List.getElem_mem hk
    have hgk : g.ns[k]? = some g.ns[k] := List.getElem?_eq_getElem hk
    have hfw := hf k _ hgk
    have hfew := hg.few hmem
    have hsum := fun h => hg.sum hmem h
    have hend := fun h => hg.en hmem h
    have hsm : ∀ x ∈ g.ns, x.k = 1 → 1 ≤ x.ws.sum := fun x hx hk => (hg.sum hx hk).1
    have hn := hg.n
    have e1 : objCells H j 0 = (scn g m false).cells := objCells_of (o := scn g m false) ho rfl
    have hH : H.set j (scn g m false) = H := set_same ho
    have e3 := fun L => objCells_app L hj (H := H) (ver := 0)
    simp only [vis, hgk]
    generalize hx : g.ns[k] = x at *
    obtain ⟨r, hr⟩ : ∃ r, (if x.k = 3 then lcmO m p else if x.k = 1 then if 1000000000000000 / x.ws.sum.toNat < p then none else viss (vis g.ns f) x.nx (p * x.ws.sum.toNat) m else viss (vis g.ns f) x.nx p m) = r := ⟨_, rfl⟩
    rw [hr]
    have e4 : ∀ (L : List AO) (f : AO → AO), Ab.setObj (H ++ L) j f = H.set j (f (scn g m false)) ++ L := fun L f => by
      unfold Ab.setObj; rw [List.getElem?_append_left hj, ho]; simp only; rw [List.set_append_left _ _ hj]
    refine okP_fn hm Try.func34 c34 (by simp) fun hcl => ?_
    have c1 : (nds g.ns).drop (k * 6) = x.cells ++ nds (g.ns.drop (k + 1)) := by rw [← hx]; exact nds_at hk
    simp -implicitDefEqProofs [i34, r34, e1, scn, hk, nds_at hk, nds_min hk, nds_ge hk, hx, Nd.cells, sl]
    have hcs : ∀ m' b, closed (H.set j (scn g m' b)) := fun m' b => closed_set hcl j (by simp [scn, nds_under, infs_under])
    have ho' : ∀ L : List AO, (H ++ L)[j]? = some (scn g m false) := fun L => by rw [List.getElem?_append_left hj]; exact ho
    by_cases h3 : x.k = 3
    · rw [if_pos h3] at hr
      simp -implicitDefEqProofs [h3]
      refine call_go (ok50 (ho' _) hm1 hm2 hp1 hp2) ?_
      simp -implicitDefEqProofs
      rw [List.set_append_left _ _ hj, hr]
      cases r with
      | none => exact ⟨_, _, ⟨rfl, m, rfl⟩, cv_drop rfl (by simp) (hcs _ _) rfl⟩
      | some m1 => exact ⟨_, _, ⟨rfl, rfl⟩, cv_drop rfl (by simp) (hcs _ _) rfl⟩
    · have hrec := fun (p' : Nat) (h1 : 1 ≤ p') (h2 : p' ≤ 1000000000000000) (c : Int) (hc : c ∈ x.nx) (m : Nat) (H : List AO) (hm1 : 1 ≤ m) (hm2 : m ≤ 1000000000000000) (ho : H[j]? = some (scn g m false)) => (by
        have h5 := hfw c hc
        have h6 := ih c.toNat p' m H (by omega) (by omega) h1 h2 hm1 hm2 ho
        rwa [show ((c.toNat : Nat) : Int) = c by omega] at h6 : OkP Try.prog 34 [.ptr (.own j 0 0 0 0) 0, i64 c, i64 p'] H fun o H' => o = .ret (.tup []) ∧ visP g j H (vis g.ns f c.toNat p' m) H')
      rw [if_neg h3] at hr
      by_cases h1 : x.k = 1
      · simp -implicitDefEqProofs [h1]
        have hsu := hsum h1
        obtain ⟨u, hu⟩ : ∃ u : Nat, x.ws.sum = u := ⟨x.ws.sum.toNat, by omega⟩
        refine call_go (ok38 (IsI.slc _ x.ws) hfew.2.2 (by omega)) ?_
        rw [hu] at hsu ⊢
        have t2 : (1000000000000000 : Int).tdiv u = ((1000000000000000 / u : Nat) : Int) := by rw [Int.tdiv_eq_ediv_of_nonneg (by omega)]; rfl
        have b2 : 1000000000000000 / u ≤ 1000000000000000 := Nat.div_le_self _ _
        have w2 : IntKind.i64.wrap ((1000000000000000 / u : Nat) : Int) = ((1000000000000000 / u : Nat) : Int) := wrap_nat (by omega)
        have hle : 1000000000000000 / u < p ↔ 1000000000000000 < p * u := Nat.div_lt_iff_lt_mul (by omega)
        generalize hq : 1000000000000000 / u = q at *
        rw [if_pos h1, hu, show (u : Int).toNat = u from rfl, hq] at hr
        simp -implicitDefEqProofs [t2, w2, e3, e4, e1, scn]
        refine ⟨by omega, ?_⟩
        by_cases hqp : q < p
        · rw [if_pos hqp] at hr ⊢
          subst hr
          exact ⟨_, _, ⟨rfl, m, rfl⟩, cv_drop rfl (by simp) (hcs _ _) rfl⟩
        · rw [if_neg hqp] at hr ⊢
          have hpu : p * u ≤ 1000000000000000 := by have := fun h => hqp (hle.2 h); omega
          have hpu1 : 1 * 1 ≤ p * u := Nat.mul_le_mul hp1 (by omega)
          have w3 : IntKind.i64.wrap ((p : Int) * u) = ((p * u : Nat) : Int) := by rw [← Int.natCast_mul]; exact wrap_nat (by omega)
          rw [w3]
          refine LI.cong (H' := H.set j (scn g m false) ++ [⟨x.cells, 39, 0, true⟩]) (by rw [hH]; simp [Nd.cells, sl, h1]) (loop34 (g := g) (f := f) (p := p * u) (l := x.nx) hfew.1 (by omega) hpu hsm (fun c hc => by have := hfw c hc; omega) (hrec (p * u) (by omega) hpu) (r := r) hj (fun hr x env m' hx => ?_) (fun env m' hr => ?_) x.nx.length 0 m _ (by omega) hm1 hm2 hr ?_ ?_ ?_ ?_ ?_)
          · subst hr
            rcases hx with rfl | rfl
            all_goals (simp -implicitDefEqProofs; exact ⟨_, _, ⟨rfl, m', rfl⟩, cv_drop rfl (by simp) (hcs _ _) rfl⟩)
          · subst hr
            simp -implicitDefEqProofs
            exact ⟨_, _, ⟨rfl, rfl⟩, cv_drop rfl (by simp) (hcs _ _) rfl⟩
          all_goals simp [sl]
      · rw [if_neg h1] at hr
        simp -implicitDefEqProofs [h1, h3]
        refine LI.cong (H' := H.set j (scn g m false) ++ [⟨x.cells, 39, 0, true⟩]) (by rw [hH]; simp [Nd.cells, sl]) (loop34 (g := g) (f := f) (p := p) (l := x.nx) hfew.1 hp1 hp2 hsm (fun c hc => by have := hfw c hc; omega) (hrec p hp1 hp2) (r := r) hj (fun hr x env m' hx => ?_) (fun env m' hr => ?_) x.nx.length 0 m _ (by omega) hm1 hm2 hr ?_ ?_ ?_ ?_ ?_)
        · subst hr
          rcases hx with rfl | rfl
          all_goals (simp -implicitDefEqProofs; exact ⟨_, _, ⟨rfl, m', rfl⟩, cv_drop rfl (by simp) (hcs _ _) rfl⟩)
        · subst hr
          simp -implicitDefEqProofs
          exact ⟨_, _, ⟨rfl, rfl⟩, cv_drop rfl (by simp) (hcs _ _) rfl⟩
        all_goals simp [sl]
end
end
end Go.Proofs.Ytbfeaikiiamhaaa.Rc

/- H25 -/
namespace Go.Proofs.Ytbfeaikiiamhaaa.Rc
open Go.Ab
def setC (pr : List Nat) : List Int → Nat → List Nat
  | [], _ => pr
  | c :: cs, b => setC (pr.set c.toNat b) cs b
def stp (ns : List Nd) (i : Nat) (s : List Nat × Nat) : Option (List Nat × Nat) :=
  match ns[i]? with
  | none => some s
  | some x =>
    if x.k = 1 then (if 1000000000000000 / x.ws.sum.toNat < s.1.getD i 0 then none else some (setC s.1 x.nx (s.1.getD i 0 * x.ws.sum.toNat), s.2))
    else if x.k = 3 then (match lcmO s.2 (s.1.getD i 0) with | none => none | some m => some (setC s.1 x.nx (s.1.getD i 0), m))
    else some (setC s.1 x.nx (s.1.getD i 0), s.2)
def run (ns : List Nd) : Nat → Nat → List Nat × Nat → Option (List Nat × Nat)
  | 0, _, s => some s
  | n + 1, i, s => match stp ns i s with | none => none | some s => run ns n (i + 1) s
theorem run_add (ns : List Nd) : ∀ (a b i : Nat) (s : List Nat × Nat), run ns (a + b) i s = (run ns a i s).bind (run ns b (i + a))
  | 0, b, i, s => by simp [run]
  | a + 1, b, i, s => by
    rw [show a + 1 + b = (a + b) + 1 by omega]
    simp only [run]
    cases stp ns i s with
    | none => rfl
    | some s =>
      have := run_add ns a b (i + 1) s
      rw [show i + 1 + a = i + (a + 1) by omega] at this
      exact this
theorem setC_len : ∀ (cs : List Int) (pr : List Nat) (b : Nat), (setC pr cs b).length = pr.length
  | [], pr, b => rfl
  | c :: cs, pr, b => by rw [setC, setC_len cs]; simp
theorem setC_out : ∀ (cs : List Int) (pr : List Nat) (b t : Nat), (∀ c ∈ cs, c.toNat ≠ t) → (setC pr cs b).getD t 0 = pr.getD t 0
  | [], pr, b, t, h => rfl
  | c :: cs, pr, b, t, h => by
    rw [setC, setC_out cs _ b t fun x hx => h x (by simp [hx])]
    simp only [List.getD_eq_getElem?_getD]
    rw [List.getElem?_set_ne (h c (by simp))]
theorem setC_in : ∀ (cs : List Int) (pr : List Nat) (b t : Nat), t < pr.length → (∃ c ∈ cs, c.toNat = t) → (setC pr cs b).getD t 0 = b
  | [], pr, b, t, hl, h => by obtain ⟨c, hc, _⟩ := h; simp at hc
  | c :: cs, pr, b, t, hl, h => by
    rw [setC]
    by_cases h2 : ∃ c ∈ cs, c.toNat = t
    · exact setC_in cs _ b t (by simpa using hl) h2
    · rw [setC_out cs _ b t fun x hx e => h2 ⟨x, hx, e⟩]
      obtain ⟨c', hc', e⟩ := h
      rcases List.mem_cons.1 hc' with rfl | hc'
      · subst e
        simp only [List.getD_eq_getElem?_getD]
        rw [List.getElem?_set_self hl]; rfl
      · exact absurd ⟨c', hc', e⟩ h2
theorem kids_ge {n : Nat} {w : Nat → Int → Option Nat × Int} (hw : ∀ r m r', (w r m).1 = some r' → r < r' ∧ r' ≤ n) :
    ∀ (l : List Int) (r : Nat) (m : Int) (r' : Nat), r ≤ n → (kidsR w l r m).1 = some r' → ∀ c ∈ l, (r : Int) ≤ c ∧ c < r'
  | [], r, m, r', hn, h, c, hc => by simp at hc
  | d :: cs, r, m, r', hn, h, c, hc => by
    unfold kidsR at h
    by_cases hd : d = r
    · rw [if_pos hd] at h
      cases hh : w r m with
      | mk o m1 =>
        rw [hh] at h
        cases o with
        | none => simp at h
        | some r1 =>
          simp only at h
          have h1 := hw r m r1 (by rw [hh])
          have h2 := kidsR_ok hw cs r1 m1 h1.2 r' h
          rcases List.mem_cons.1 hc with rfl | hc
          · omega
          · have := kids_ge hw cs r1 m1 r' h1.2 h c hc
            omega
    · rw [if_neg hd] at h; simp at h
section
variable {ns : List Nd}
/-- What the run over a subtree gives. -/
def RunOk (ns : List Nd) (k r : Nat) (s : List Nat × Nat) (v : Option Nat) : Prop :=
  (run ns (r - k) k s).map (·.2) = v ∧ ∀ s', run ns (r - k) k s = some s' → s'.1.length = ns.length ∧ ∀ t, t < k ∨ r ≤ t → s'.1.getD t 0 = s.1.getD t 0
theorem kids_run {w : Nat → Int → Option Nat × Int} {v : Nat → Nat → Nat → Option Nat} (hw : ∀ r m r', (w r m).1 = some r' → r < r' ∧ r' ≤ ns.length)
    (hv : ∀ k m r s, (w k m).1 = some r → s.1.length = ns.length → RunOk ns k r s (v k (s.1.getD k 0) s.2)) :
    ∀ (cs : List Int) (r0 : Nat) (m : Int) (r p : Nat) (s : List Nat × Nat), r0 ≤ ns.length → (kidsR w cs r0 m).1 = some r → s.1.length = ns.length → (∀ c ∈ cs, s.1.getD c.toNat 0 = p) → RunOk ns r0 r s (viss v cs p s.2)
  | [], r0, m, r, p, s, hn, h, hl, hp => by
    simp only [kidsR, Option.some.injEq] at h
    subst h
    unfold RunOk
    rw [Nat.sub_self]
    refine ⟨rfl, fun s' h => ?_⟩
    simp only [run, Option.some.injEq] at h
    subst h
    exact ⟨hl, fun _ _ => rfl⟩
  | c :: cs, r0, m, r, p, s, hn, h, hl, hp => by
    have hk := h
    unfold kidsR at h
    by_cases hd : c = r0
    · rw [if_pos hd] at h
      cases hh : w r0 m with
      | mk o m1 =>
        rw [hh] at h
        cases o with
        | none => simp at h
        | some r1 =>
          simp only at h
          have h1 := hw r0 m r1 (by rw [hh])
          have h2 := kidsR_ok hw cs r1 m1 h1.2 r h
          have hge := kids_ge hw cs r1 m1 r h1.2 h
          obtain ⟨a1, a2⟩ := hv r0 m r1 s (by rw [hh]) hl
          have hp0 : s.1.getD r0 0 = p := by have := hp c (by simp); rwa [show c.toNat = r0 by omega] at this
          have hc : c.toNat = r0 := by omega
          rw [hp0] at a1
          unfold RunOk
          rw [show r - r0 = (r1 - r0) + (r - r1) by omega, run_add, show r0 + (r1 - r0) = r1 by omega]
          simp only [viss, hc]
          cases hr : run ns (r1 - r0) r0 s with
          | none =>
            rw [hr] at a1
            have a1 : none = v r0 p s.2 := a1
            rw [← a1]
            exact ⟨rfl, fun s' h => by cases h⟩
          | some s1 =>
            rw [hr] at a1
            have a1 : some s1.2 = v r0 p s.2 := a1
            rw [← a1]
            obtain ⟨b1, b2⟩ := a2 s1 hr
            have hps : ∀ c ∈ cs, s1.1.getD c.toNat 0 = p := fun c' hc' => by
              have := hge c' hc'
              rw [b2 c'.toNat (.inr (by omega))]
              exact hp c' (by simp [hc'])
            obtain ⟨d1, d2⟩ := kids_run hw hv cs r1 m1 r p s1 h1.2 h b1 hps
            refine ⟨d1, fun s' h => ?_⟩
            obtain ⟨f1, f2⟩ := d2 s' h
            refine ⟨f1, fun t ht => ?_⟩
            rw [f2 t (by omega), b2 t (by omega)]
    · rw [if_neg hd] at h; simp at h
theorem vis_run (hend : ∀ x ∈ ns, x.k = 3 → x.nx = []) : ∀ (f : Nat) (dep : Int) (k : Nat) (mx : Int) (r : Nat) (s : List Nat × Nat), (walkR ns f dep k mx).1 = some r → s.1.length = ns.length → RunOk ns k r s (vis ns f k (s.1.getD k 0) s.2)
  | 0, dep, k, mx, r, s, h, hl => by simp [walkR] at h
  | f + 1, dep, k, mx, r, s, h, hl => by
    have hkr := walkR_ok (f + 1) dep k mx r h
    unfold walkR at h
    cases hx : ns[k]? with
    | none => rw [hx] at h; simp at h
    | some x =>
      rw [hx] at h
      simp only at h
      have hmem := List.mem_of_getElem? hx
      have hkn : k < ns.length := getElem?_lt hx
      have hww := fun r m r' => walkR_ok (ns := ns) f (dep + 1) r m r'
      have hge := kids_ge hww x.nx (k + 1) _ r (by omega) h
      have hkk := kids_run (v := vis ns f) hww (fun k m r s h hl => vis_run hend f (dep + 1) k m r s h hl) x.nx (k + 1) (max mx dep) r
      unfold RunOk
      rw [show r - k = (r - (k + 1)) + 1 by omega]
      simp only [run, stp, hx, vis]
      have step : ∀ (p m : Nat), RunOk ns (k + 1) r (setC s.1 x.nx p, m) (viss (vis ns f) x.nx p m) := fun p m => by
        refine hkk p (setC s.1 x.nx p, m) (by omega) h (by rw [setC_len]; exact hl) fun c hc => ?_
        have := hge c hc
        exact setC_in _ _ _ _ (by omega) ⟨c, hc, rfl⟩
      have keep : ∀ (p m : Nat), (∀ s', run ns (r - (k + 1)) (k + 1) (setC s.1 x.nx p, m) = some s' → s'.1.length = ns.length ∧ ∀ t, t < k ∨ r ≤ t → s'.1.getD t 0 = s.1.getD t 0) := fun p m s' hs => by
        obtain ⟨g1, g2⟩ := (step p m).2 s' hs
        refine ⟨g1, fun t ht => ?_⟩
        rw [g2 t (by omega)]
        refine setC_out _ _ _ _ fun c hc e => ?_
        have := hge c hc
        omega
      by_cases h3 : x.k = 3
      · have he := hend x hmem h3
        rw [if_neg (show ¬ x.k = 1 by omega), if_pos h3, if_pos h3]
        cases hl2 : lcmO s.2 (s.1.getD k 0) with
        | none => exact ⟨rfl, fun s' h => by cases h⟩
        | some m1 =>
          have hst := (step (s.1.getD k 0) m1).1
          rw [he] at hst
          refine ⟨?_, by simpa using keep (s.1.getD k 0) m1⟩
          rw [he]
          simpa [viss, setC] using hst
      · rw [if_neg h3, if_neg h3]
        by_cases h1 : x.k = 1
        · rw [if_pos h1, if_pos h1]
          by_cases hq : 1000000000000000 / x.ws.sum.toNat < s.1.getD k 0
          · rw [if_pos hq, if_pos hq]
            exact ⟨rfl, fun s' h => by cases h⟩
          · rw [if_neg hq, if_neg hq]
            exact ⟨(step _ _).1, keep _ _⟩
        · rw [if_neg h1, if_neg h1]
          exact ⟨(step _ _).1, keep _ _⟩
theorem walk_fwd : ∀ (f : Nat) (dep : Int) (k : Nat) (mx : Int) (r : Nat), (walkR ns f dep k mx).1 = some r → ∀ (t : Nat) (x : Nd), k ≤ t → t < r → ns[t]? = some x → ∀ c ∈ x.nx, (t : Int) < c ∧ c < r
  | 0, dep, k, mx, r, h => by simp [walkR] at h
  | f + 1, dep, k, mx, r, h => by
    have hkr := walkR_ok (f + 1) dep k mx r h
    unfold walkR at h
    cases hx : ns[k]? with
    | none => rw [hx] at h; simp at h
    | some x =>
      rw [hx] at h
      simp only at h
      have hww := fun r m r' => walkR_ok (ns := ns) f (dep + 1) r m r'
      have hge := kids_ge hww x.nx (k + 1) _ r (by omega) h
      have key : ∀ (cs : List Int) (r0 : Nat) (m : Int), r0 ≤ ns.length → (kidsR (walkR ns f (dep + 1)) cs r0 m).1 = some r → ∀ (t : Nat) (x : Nd), r0 ≤ t → t < r → ns[t]? = some x → ∀ c ∈ x.nx, (t : Int) < c ∧ c < r := by
        intro cs
        induction cs with
        | nil => intro r0 m _ h t y h1 h2; simp only [kidsR, Option.some.injEq] at h; omega
        | cons c cs ih =>
          intro r0 m hn h t y h1 h2 hy
          unfold kidsR at h
          by_cases hd : c = r0
          · rw [if_pos hd] at h
            cases hh : walkR ns f (dep + 1) r0 m with
            | mk o m1 =>
              rw [hh] at h
              cases o with
              | none => simp at h
              | some r1 =>
                simp only at h
                have h3 := hww r0 m r1 (by rw [hh])
                have h4 := kidsR_ok hww cs r1 m1 h3.2 r h
                by_cases ht : t < r1
                · intro c' hc'
                  have := walk_fwd f (dep + 1) r0 m r1 (by rw [hh]) t y h1 ht hy c' hc'
                  omega
                · exact ih r1 m1 h3.2 h t y (by omega) h2 hy
          · rw [if_neg hd] at h; simp at h
      intro t y h1 h2 hy
      by_cases ht : t = k
      · subst ht
        rw [hx] at hy; cases hy
        intro c hc
        have := hge c hc
        omega
      · exact key x.nx (k + 1) _ (by omega) h t y (by omega) h2 hy
end
section
variable {g : Gm}
theorem form0 (h : g.formR = 0) : Gd g ∧ g.wr.1 = some g.ns.length := by
  unfold Gm.formR at h
  split at h
  · cases h
  · rename_i h1
    unfold Gm.rng at h1
    split at h
    · rename_i h2; exact absurd h h2
    · rename_i h2
      split at h
      · cases h
      · rename_i h3
        refine ⟨⟨by omega, by omega, by omega, by omega, by omega, ?_⟩, by simpa using h3⟩
        have h2 : nodesE g g.ns = 0 := by simpa using h2
        have : ∀ l : List Nd, nodesE g l = 0 → ∀ x ∈ l, x.err g = 0 := by
          intro l
          induction l with
          | nil => intro _ x hx; simp at hx
          | cons y r ih =>
            intro h x hx
            unfold nodesE at h
            split at h
            · rename_i hy
              rcases List.mem_cons.1 hx with rfl | hx
              · exact hy
              · exact ih h x hx
            · rename_i hy; exact absurd h hy
        exact this g.ns h2
theorem fwd0 (h : g.formR = 0) : Fwd g.ns := by
  have hw := (form0 h).2
  unfold Gm.wr at hw
  intro k x hx c hc
  exact walk_fwd _ _ _ _ _ hw k x (by omega) (getElem?_lt hx) hx c hc
/-- How many seeds a game has: visited, or gone through in order. -/
def Gm.siz (g : Gm) : Option Nat := vis g.ns (g.ns.length + 1) 0 1 1
theorem siz_run (h : g.formR = 0) : (run g.ns g.ns.length 0 ((List.replicate g.ns.length 0).set 0 1, 1)).map (·.2) = g.siz := by
  obtain ⟨hg, hw⟩ := form0 h
  unfold Gm.wr at hw
  have h1 := (vis_run (ns := g.ns) (fun x hx hk => (hg.en hx hk).1) _ _ _ _ _ ((List.replicate g.ns.length 0).set 0 1, 1) hw (by simp)).1
  have hn := hg.n1
  have e : ((List.replicate g.ns.length 0).set 0 1).getD 0 0 = 1 := by
    rw [List.getD_eq_getElem?_getD, List.getElem?_set_self (by simp; omega)]; rfl
  simp only [Nat.sub_zero, e] at h1
  exact h1
end
end Go.Proofs.Ytbfeaikiiamhaaa.Rc

