/-
  Steps of the proof: contracts of functions and plain facts that the statement rests on.
-/
import Derived.Test.YtiikfkacbglblaaD22
set_option linter.all false
namespace Go.Proofs.Ytiikfkacbglblaa
open Go.Ab
/-- The way so far: the walker's box, the slice's box, the slice's row. -/
def WayI (g : Gm) (H : List AO) (m : Nat) (G : List AO) (l : List (Int × Int)) : Prop :=
  l.length + m ≤ 2000 ∧ ∃ L c, G = H ++ ⟨[g.wp], 67, 0, true⟩ :: ⟨[c], 43, 0, true⟩ :: L ∧
    ((l = [] ∧ c = nl) ∨ (l ≠ [] ∧ ∃ p, c = .own (H.length + (p + 1 + 1)) 0 l.length 2 l.length ∧ L[p]? = some ⟨infs l, 47, l.length, true⟩))
theorem infs_snoc : ∀ (l : List (Int × Int)) (x : Int × Int), infs (l ++ [x]) = infs l ++ [i64 x.1, i64 x.2]
  | [], x => rfl
  | y :: r, x => by simp [infs, infs_snoc r x]
def infoAt (g : Gm) (k : Nat) : Int := match g.ns[k]? with | some x => x.i | none => 0
section
variable {H : List AO} {g : Gm}
theorem wp_flat : g.wp.flat = [g.wp] := rfl
theorem nds_g2 {l : List Nd} {k : Nat} (h : k < l.length) : (nds l)[k * 6 + 2]? = some (i64 l[k].i) := by rw [nds_get h (by omega)]; rfl
set_option maxRecDepth 10000 in
theorem ok70 {m : Nat} {G : List AO} {l : List (Int × Int)} (hI : WayI g H m G l) {k : Nat} (hk : k < g.ns.length) (hkm : k < m) (hn : g.ns.length ≤ 2000) (a : Int) :
    OkP Try.prog 70 [i64 k, i64 a, .ptr (.own (H.length + 1) 0 0 0 0) 0, .ptr (.own H.length 0 0 0 0) 0] G fun out G' => out = .ret (bl true) ∧ WayI g H k G' (l ++ [(infoAt g k, a)]) := by
  have hinf : infoAt g k = g.ns[k].i := by unfold infoAt; rw [List.getElem?_eq_getElem hk]
  rw [hinf]
  obtain ⟨hb, L, c, rfl, hc⟩ := hI
  refine okP_fn hm Try.func70 c70 (by simp) fun hcl => ?_
  rcases hc with ⟨rfl, rfl⟩ | ⟨hne, p, rfl, hp⟩
  · simp -implicitDefEqProofs [i70, r70, Gm.wp, sl, hk, nds_g2 hk, nds_len]
    refine ⟨by omega, _, _, ⟨rfl, by simp at hb ⊢; omega, L ++ [_, _], _, rfl, .inr ⟨by simp, L.length + 1, rfl, ?_⟩⟩, cv_id⟩
    rw [List.getElem?_append_right (by omega)]; simp [infs]
  · simp -implicitDefEqProofs [i70, r70, Gm.wp, sl, hk, nds_g2 hk, nds_len, setObj_old hp, objIs_old hp, objCells_set0, objCells_setk, len_addn]
    refine ⟨by omega, by omega, by omega, by rw [infs_len]; omega, by omega, _, _, ⟨rfl, by simp; omega, L.set p _ ++ [_], _, rfl, .inr ⟨by simp, p, by simp, ?_⟩⟩, cv_id⟩
    rw [List.getElem?_append_left (by simpa using getElem?_lt hp), List.getElem?_set_self (getElem?_lt hp)]
    simp [infs_snoc]
def prow (l : List (Int × Int)) (v : Nat) : AO := ⟨infs l, 47, v, true⟩
theorem infs_set : ∀ (l : List (Int × Int)) (i : Nat) (a b : Int), i < l.length → (infs l).take (i * 2) ++ i64 a :: i64 b :: (infs l).drop (i * 2 + 2) = infs (l.set i (a, b))
  | [], i, a, b, h => by simp at h
  | x :: r, 0, a, b, h => by simp [infs]
  | x :: r, i + 1, a, b, h => by
    rw [show (i + 1) * 2 = i * 2 + 2 by omega]
    simp only [infs, List.take_succ_cons, List.drop_succ_cons, List.set_cons_succ, List.cons_append]
    rw [infs_set r i a b (by simpa using h)]
/-- The first i are those of the reversed list, and the last i. -/
def Rv (l m : List (Int × Int)) (i : Nat) : Prop := m.length = l.length ∧ ∀ t, t < l.length → m[t]? = if t < i ∨ l.length - 1 - i < t then l[l.length - 1 - t]? else l[t]?
theorem Rv.step {l m : List (Int × Int)} {i : Nat} (h : Rv l m i) (hi : i < l.length - 1 - i) {x y : Int × Int} (hx : m[l.length - 1 - i]? = some x) (hy : m[i]? = some y) : Rv l ((m.set i x).set (l.length - 1 - i) y) (i + 1) := by
  have hlm := h.1
  refine ⟨by simpa using h.1, fun t ht => ?_⟩
  have hx' := h.2 (l.length - 1 - i) (by omega)
  have hy' := h.2 i (by omega)
  rw [if_neg (by omega)] at hx' hy'
  rw [hx] at hx'
  rw [hy] at hy'
  by_cases e1 : t = l.length - 1 - i
  · subst e1
    rw [List.getElem?_set_self (by simp; omega), if_pos (by omega), hy']
    congr 1; omega
  · rw [List.getElem?_set_ne (fun h => e1 h.symm)]
    by_cases e2 : t = i
    · subst e2
      rw [List.getElem?_set_self (by omega), if_pos (by omega), hx']
    · rw [List.getElem?_set_ne (fun h => e2 h.symm), h.2 t ht]
      by_cases hc : t < i ∨ l.length - 1 - i < t
      · rw [if_pos hc, if_pos (by omega)]
      · rw [if_neg hc, if_neg (by omega)]
theorem Rv.done {l m : List (Int × Int)} {i : Nat} (h : Rv l m i) (hi : ¬ (i : Int) < (l.length : Int) - 1 - i) : m = l.reverse := by
  have hlm := h.1
  apply List.ext_getElem?
  intro t
  by_cases ht : t < l.length
  · rw [h.2 t ht, List.getElem?_reverse ht]
    by_cases hc : t < i ∨ l.length - 1 - i < t
    · rw [if_pos hc]
    · rw [if_neg hc]
      congr 1; omega
  · rw [List.getElem?_eq_none (by omega), List.getElem?_eq_none (by simp; omega)]
theorem setObj_set {G : List AO} {q : Nat} (hq : q < G.length) (o : AO) (f : AO → AO) : Ab.setObj (G.set q o) q f = G.set q (f o) := by
  rw [setObj_some (o := o) (List.getElem?_set_self hq), List.set_set]
theorem objCells_set {G : List AO} {q : Nat} (hq : q < G.length) (l : List (Int × Int)) (v : Nat) : objCells (G.set q (prow l v)) q v = infs l :=
  objCells_of (o := prow l v) (List.getElem?_set_self hq) rfl
set_option maxRecDepth 10000 in
theorem loop71 {G : List AO} {q v : Nat} (hq : q < G.length) {l : List (Int × Int)} (hl : l.length ≤ 2000) {N : Nat} {K : XE → Env → List AO → Prop} (hexit : ∀ env, K (.exit 0) env (G.set q (prow l.reverse v))) :
    ∀ (n i : Nat) (m : List (Int × Int)) (env : Env), l.length ≤ i + n → i ≤ l.length → Rv l m i → env.get 0 = .own q 0 l.length 2 v → env.get 2 = i64 i → env.get 3 = i64 ((l.length : Int) - 1 - i) →
      LI Try.prog N drawB l71_0 env (G.set q (prow m v)) K := by
  intro n
  induction n with
  | zero =>
    intro i m env hn hi hR e0 e2 e3
    refine li_go hm l71_0.eq_1 ?_
    have hno : ¬ (i : Int) < (l.length : Int) - 1 - i := by omega
    simp -implicitDefEqProofs [e0, e2, e3, hno]
    rw [hR.done hno]
    exact hexit _
  | succ n ih =>
    intro i m env hn hi hR e0 e2 e3
    refine li_go hm l71_0.eq_1 ?_
    by_cases hlt : (i : Int) < (l.length : Int) - 1 - i
    · have hlm := hR.1
      have ej : (l.length : Int) - 1 - i = ((l.length - 1 - i : Nat) : Int) := by omega
      have hj : l.length - 1 - i < m.length := by omega
      have hi' : i < m.length := by omega
      have w1 : IntKind.i64.wrap ((i : Int) + 1) = ((i + 1 : Nat) : Int) := wrap_succ (by omega)
      have w2 : IntKind.i64.wrap (((l.length - 1 - i : Nat) : Int) - 1) = (l.length : Int) - 1 - ((i + 1 : Nat) : Int) := by rw [wrap_id (by omega) (by omega)]; omega
      rw [ej] at e3 hlt
      have hlt' : i < l.length - 1 - i := by omega
      simp -implicitDefEqProofs [e0, e2, e3, hlt, hlt', objCells_set hq, infs_at hj, infs_at hi', infs_len, show i < l.length by omega, show l.length - 1 - i < l.length by omega, setObj_set hq]
      have c1 : List.take (i * 2) (prow m v).cells ++ i64 m[l.length - 1 - i].1 :: i64 m[l.length - 1 - i].2 :: List.drop (i * 2 + 2) (prow m v).cells = infs (m.set i m[l.length - 1 - i]) := infs_set m i _ _ hi'
      rw [c1]
      have c2 : List.take ((l.length - 1 - i) * 2) (infs (m.set i m[l.length - 1 - i])) ++ i64 m[i].1 :: i64 m[i].2 :: List.drop ((l.length - 1 - i) * 2 + 2) (infs (m.set i m[l.length - 1 - i])) = infs ((m.set i m[l.length - 1 - i]).set (l.length - 1 - i) m[i]) :=
        infs_set _ _ _ _ (by simpa using hj)
      rw [c2, w1, w2]
      have c3 : objCells (G.set q (prow (m.set i m[l.length - 1 - i]) v)) q v = infs (m.set i m[l.length - 1 - i]) := objCells_set hq _ v
      refine ⟨by omega, ?_, ?_⟩
      · show _ ≤ (objCells (G.set q (prow (m.set i m[l.length - 1 - i]) v)) q v).length
        rw [c3, infs_len, List.length_set]; omega
      · refine ih (i + 1) ((m.set i m[l.length - 1 - i]).set (l.length - 1 - i) m[i]) _ (by omega) (by omega) (hR.step hlt' (List.getElem?_eq_getElem hj) (List.getElem?_eq_getElem hi')) ?_ ?_ ?_
        · simp
        · simp
        · simp
    · simp -implicitDefEqProofs [e0, e2, e3, hlt]
      rw [hR.done hlt]
      exact hexit _
theorem ok71 {G : List AO} {q v : Nat} (hq : q < G.length) {l : List (Int × Int)} (hl : l.length ≤ 2000) : Ok Try.prog 71 [.own q 0 l.length 2 v] (G.set q (prow l v)) (.ret (.tup [])) (G.set q (prow l.reverse v)) := by
  refine ok_fn hm Try.func71 c71 (by simp) fun hcl => ?_
  have w1 : IntKind.i64.wrap ((l.length : Int) - 1) = (l.length : Int) - 1 - ((0 : Nat) : Int) := by rw [wrap_id (by omega) (by omega)]; omega
  simp -implicitDefEqProofs [i71, r71]
  rw [w1]
  refine loop71 hq hl (fun env => ?_) l.length 0 l _ (by omega) (by omega) ⟨rfl, fun t ht => by rw [if_neg (by omega)]⟩ (by simp) (by simp) (by simp)
  simp -implicitDefEqProofs
  exact cv_id
theorem ok71n {G : List AO} : Ok Try.prog 71 [nl] G (.ret (.tup [])) G := by
  refine ok_fn hm Try.func71 c71 (by simp) fun hcl => ?_
  simp -implicitDefEqProofs [i71, r71, show (SV.val (Value.slice none 0 0)).isSl = true by rfl, show (SV.val (Value.slice none 0 0)).slen = 0 by rfl, show IntKind.i64.wrap (-1) = -1 by rfl]
  refine li_go hm l71_0.eq_1 ?_
  simp -implicitDefEqProofs
  exact cv_id
end
end Go.Proofs.Ytiikfkacbglblaa
