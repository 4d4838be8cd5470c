/-
  Steps of the proof: contracts of functions and plain facts that the statement rests on.
-/
import Derived.Test.YtiikfkacbglblaaD27
set_option linter.all false
namespace Go.Proofs.Ytiikfkacbglblaa
open Go.Ab
def fls : List Fl → List SV
  | [] => []
  | x :: r => i64 x.k :: i64 x.n :: i64 x.i :: i64 x.o :: fls r
theorem fls_snoc : ∀ (l : List Fl) (x : Fl), fls (l ++ [x]) = fls l ++ [i64 x.k, i64 x.n, i64 x.i, i64 x.o]
  | [], x => rfl
  | y :: r, x => by simp [fls, fls_snoc r x]
theorem fls_len : ∀ l : List Fl, (fls l).length = 4 * l.length
  | [] => rfl
  | x :: r => by simp [fls, fls_len r]; omega
theorem fls_under (n : Nat) : ∀ l : List Fl, SV.underL n (fls l) = true
  | [] => rfl
  | x :: r => by simp [fls, fls_under n r]
@[simp] theorem fz_fls (n : Nat) (ks : List Nat) (L : List AO) (d : Nat) (l : List Fl) : (fls l).map (SV.fz n ks L (d + 1)) = fls l := fz_mapU (fls_under n l)
def fv (l : List Fl) : SV := if l = [] then nl else .slc (fls l) l.length
def rpF (n : Nat) : SV := .fn (.func 49) [] [.ptr (.own (n + 1) 0 0 0 0) 0]
def RF (g : Gm) (H : List AO) (c : Nat) (G : List AO) (l : List Fl) : Prop := l.length + c ≤ 1000000 ∧ ∃ A cell L, G = H ++ A :: ⟨[cell], 40, 0, true⟩ :: ⟨[g.wp, rpF H.length], 80, 0, true⟩ :: L ∧
  ((l = [] ∧ cell = nl) ∨ (l ≠ [] ∧ ∃ p, cell = .own (H.length + (p + 1 + 1 + 1)) 0 l.length 4 l.length ∧ L[p]? = some ⟨fls l, 59, l.length, true⟩))
def nxF (l : List Fl) (f : Fl) : List Fl := l ++ [f]
section
variable {H : List AO} {g : Gm}
set_option maxRecDepth 10000 in
theorem ok49 {c : Nat} {G : List AO} {l : List Fl} (f : Fl) (hI : RF g H (c + 1) G l) :
    OkP Try.prog 49 [.agg f.cells, .ptr (.own (H.length + 1) 0 0 0 0) 0] G fun out G' => out = .ret (bl true) ∧ RF g H c G' (nxF l f) ∧ Keep G G' := by
  obtain ⟨hb, A, cell, L, rfl, hc⟩ := hI
  have hkeep : ∀ (c1 c2 : SV) (L' : List AO), (∀ (p : Nat) (o : AO), L[p]? = some o → o.ty = 3 ∨ o.ty = 80 → L'[p]? = some o) → Keep (H ++ A :: ⟨[c1], 40, 0, true⟩ :: ⟨[g.wp, rpF H.length], 80, 0, true⟩ :: L) (H ++ A :: ⟨[c2], 40, 0, true⟩ :: ⟨[g.wp, rpF H.length], 80, 0, true⟩ :: L') := by
    intro c1 c2 L' hL j o ho ht
    by_cases hj : j < H.length
    · rw [List.getElem?_append_left hj] at ho ⊢; exact ho
    · rw [List.getElem?_append_right (by omega)] at ho ⊢
      match hjj : j - H.length with
      | 0 => rw [hjj] at ho; simpa using ho
      | 1 => rw [hjj] at ho; simp at ho; subst ho; simp at ht
      | 2 => rw [hjj] at ho; simpa using ho
      | q + 3 => rw [hjj] at ho; simp at ho ⊢; exact hL q o ho ht
  refine okP_fn hm Try.func49 c49 (by simp) fun hcl => ?_
  rcases hc with ⟨rfl, rfl⟩ | ⟨hne, p, rfl, hp⟩
  · simp -implicitDefEqProofs [i49, r49, Fl.cells]
    refine ⟨_, _, ⟨rfl, ⟨by simp [nxF] at hb ⊢; omega, _, _, L ++ [_, _, _], rfl, .inr ⟨by simp [nxF], L.length + 2, rfl, ?_⟩⟩, hkeep _ _ _ fun p o ho _ => by rw [List.getElem?_append_left (getElem?_lt ho)]; exact ho⟩, cv_id⟩
    rw [List.getElem?_append_right (by omega)]; simp [nxF, fls]
  · simp -implicitDefEqProofs [i49, r49, Fl.cells, setObj_old hp, objIs_old hp, objCells_set0, objCells_setk, len_addn]
    have hpl := getElem?_lt hp
    refine ⟨by omega, by omega, by rw [fls_len]; omega, _, _, ⟨rfl, ⟨by simp [nxF] at hb ⊢; omega, _, _, L.set p _ ++ [_, _], rfl, .inr ⟨by simp [nxF], p, by simp [nxF], ?_⟩⟩, hkeep _ _ _ fun q o ho ht => ?_⟩, cv_id⟩
    · rw [List.getElem?_append_left (by simpa using hpl), List.getElem?_set_self hpl]
      simp [nxF, fls_snoc]
    · rw [List.getElem?_append_left (by simpa using getElem?_lt ho), List.getElem?_set_ne (fun e => by rw [← e, hp] at ho; cases ho; simp at ht)]; exact ho
theorem repF : Rep (rpF H.length) H.length (RF g H) (fun _ _ => true) nxF where
  vd := rfl
  ug := rfl
  cell := rfl
  flat := rfl
  call := fun c G s f hI => okCP_of (by simpa using ok49 f hI)
  app := fun c G s o ⟨hb, A, cell, L, hG, hc⟩ => by
    refine ⟨hb, A, cell, L ++ [o], by rw [hG]; simp, ?_⟩
    rcases hc with h | ⟨h1, p, h2, h3⟩
    · exact .inl h
    · exact .inr ⟨h1, p, h2, by rw [List.getElem?_append_left (getElem?_lt h3)]; exact h3⟩
  put := fun c G s j o o' ⟨hb, A, cell, L, hG, hc⟩ ho hj ht => by
    subst hG
    rw [List.getElem?_append_right hj] at ho
    match hjj : j - H.length with
    | 0 =>
      refine ⟨hb, o', cell, L, by rw [List.set_append_right _ _ hj, hjj]; simp, hc⟩
    | 1 => rw [hjj] at ho; simp at ho; subst ho; cases ht
    | 2 => rw [hjj] at ho; simp at ho; subst ho; cases ht
    | q + 3 =>
      rw [hjj] at ho
      simp at ho
      refine ⟨hb, A, cell, L.set q o', by rw [List.set_append_right _ _ hj, hjj]; simp, ?_⟩
      rcases hc with h | ⟨h1, p, h2, h3⟩
      · exact .inl h
      · exact .inr ⟨h1, p, h2, by rw [List.getElem?_set_ne (fun e => by rw [e, h3] at ho; cases ho; cases ht)]; exact h3⟩
  len := fun c G s ⟨hb, A, cell, L, hG, _⟩ => by subst hG; simp
  dec := fun c G s ⟨hb, h⟩ => ⟨by omega, h⟩
def Gm.flaws (g : Gm) : List Fl := setsL g (fun _ _ => true) nxF (fun _ => true) false g.is.length 0 []
set_option maxRecDepth 10000 in
theorem loop17 (hW : Wg g) {N : Nat} {K : XE → Env → List AO → Prop} {Q : List Fl}
    (hexit : ∀ env G, RF g H 0 G Q → env.get 6 = .ptr (.own (H.length + 1) 0 0 0 0) 0 → K (.exit 0) env G) :
    ∀ (n i : Nat) (env : Env) (G : List AO) (s : List Fl), i + n = g.is.length → RF g H (4000 * n) G s → setsL g (fun _ _ => true) nxF (fun _ => true) false n i s = Q →
      env.get 6 = .ptr (.own (H.length + 1) 0 0 0 0) 0 → env.get 7 = .ptr (.own (H.length + 2) 0 0 0 0) 0 → env.get 22 = g.setsV → env.get 23 = i64 g.is.length → env.get 24 = i64 i →
      LI Try.prog N drawB l17_0 env G K := by
  have hgi := hW.gd.i
  have hgn := hW.gd.n
  have hsl : g.sets.length = g.is.length := sets_len
  intro n
  induction n with
  | zero =>
    intro i env G s hi hR hQ h6 h7 h22 h23 h24
    refine li_go hm l17_0.eq_1 ?_
    have e : i = g.is.length := by omega
    subst e
    simp -implicitDefEqProofs [h23, h24]
    simp only [setsL] at hQ
    subst hQ
    exact hexit _ G (by simpa using hR) (by simp [h6])
  | succ n ih =>
    intro i env G s hi hR hQ h6 h7 h22 h23 h24
    refine li_go hm l17_0.eq_1 ?_
    have hlt : i < g.is.length := by omega
    have hls : i < g.sets.length := by omega
    have w1 : IntKind.i64.wrap ((i : Int) + 1) = ((i + 1 : Nat) : Int) := wrap_succ (by omega)
    have hne := hW.ne i hls
    unfold setsL at hQ
    rw [List.getElem?_eq_getElem hlt, List.getElem?_eq_getElem hls] at hQ
    simp only [if_true] at hQ
    rw [if_neg (by simp)] at hQ
    obtain ⟨n0, hn0⟩ : ∃ n0, g.sets[i].head? = some n0 := by
      cases h : g.sets[i] with
      | nil => exact (hne h).elim
      | cons y r => exact ⟨y, rfl⟩
    have hd0 : g.sets[i].headD 0 = n0 := by rw [List.headD_eq_head?_getD, hn0]; rfl
    have hlk := sets_lenk (g := g) hls
    obtain ⟨hb, A, cell, L, rfl, hc⟩ := id hR
    have h48 := ok48 (rp := rpF H.length) (R := RF g H) hW repF hlt hn0 (fun v hv => sets_mem hls hv) (by omega) (c := 4000 * n) (s := s) (G := H ++ A :: ⟨[cell], 40, 0, true⟩ :: ⟨[g.wp, rpF H.length], 80, 0, true⟩ :: L)
      (repF.decn (k := 4000 - 2 * g.sets[i].length) (by rw [show 4000 - 2 * g.sets[i].length + (2 * g.sets[i].length + 4000 * n) = 4000 * (n + 1) by omega]; exact hR))
    rw [hd0] at hQ
    simp -implicitDefEqProofs [h6, h7, h22, h23, h24, Gm.setsV, hlt, hls, slN_at hls, slN_ne hne]
    refine call_goP h48 ?_
    rintro out G' ⟨rfl, hR'⟩
    simp -implicitDefEqProofs [h24]
    rw [w1]
    refine ih (i + 1) _ _ _ (by omega) hR' hQ ?_ ?_ ?_ ?_ ?_
    · simp [h6]
    · simp [h7]
    · simp [h22, Gm.setsV]
    · simp [h23]
    · simp
def Gm.flawsV (g : Gm) : SV := g.out nl (fv g.flaws)
theorem fv_under {n : Nat} {l : List Fl} : (fv l).under n = true := by
  unfold fv; split
  · rfl
  · exact fls_under n l
set_option maxRecDepth 10000 in
theorem ok17 : Ok Try.prog 17 [.agg g.cells] H (.ret g.flawsV) H := by
  refine ok_fn hm Try.func17 c17 (by simp) fun hcl => ?_
  simp -implicitDefEqProofs [i17, r17, Gm.cells]
  have hh := fun H => ok38 (H := H) (g := g)
  simp only [Gm.cells] at hh
  refine call_go (hh _) ?_
  by_cases h : g.formE = 0
  · rw [walked_ok h]
    have hW := wg_of h
    have hgi := hW.gd.i
    have hwp : g.wp.vd = true ∧ g.wp.ug = g.wp ∧ g.wp.flat = [g.wp] ∧ g.wp.isCell = true := ⟨rfl, rfl, rfl, rfl⟩
    simp -implicitDefEqProofs [hwp.1, hwp.2.1, hwp.2.2.1, hwp.2.2.2]
    refine ⟨by simp [partOk, Gm.wp], call_go (ok47 hW.gd) ?_⟩
    simp -implicitDefEqProofs [Gm.setsV]
    refine loop17 (g := g) (H := H) hW (Q := g.flaws) (fun env G hR h6 => ?_) g.is.length 0 _ _ [] (by omega) ⟨by simp; omega, _, nl, [], rfl, .inl ⟨rfl, rfl⟩⟩ rfl (by simp) (by simp) (by simp [Gm.setsV]) (by simp) (by simp)
    obtain ⟨hb, A, cell, L, rfl, hc⟩ := hR
    have hfl : g.flawsV = .tup [fv g.flaws, i64 0] := by unfold Gm.flawsV Gm.out; rw [if_pos h]
    rw [hfl]
    simp -implicitDefEqProofs [h6]
    rcases hc with ⟨h0, rfl⟩ | ⟨hne, p, rfl, hp⟩
    · refine cv_fz 4 hcl rfl ?_
      simp [fv, h0]
    · refine cv_fz 4 hcl rfl ?_
      have hpl := getElem?_lt hp
      simp [fv, hne, hp, fls_len, Nat.mul_comm]
      exact List.take_of_length_le (by rw [fls_len]; omega)
  · obtain ⟨p, e, _⟩ := walked_err h
    rw [e]
    simp -implicitDefEqProofs [h]
    refine cv_fz 2 hcl rfl ?_
    simp [Gm.flawsV, Gm.out, h]
end
end Go.Proofs.Ytiikfkacbglblaa
