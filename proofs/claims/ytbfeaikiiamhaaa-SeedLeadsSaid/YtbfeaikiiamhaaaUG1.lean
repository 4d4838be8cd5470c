/-
  Steps of the proof: contracts of functions and plain facts that the statement rests on.
-/
import Derived.Test.YtbfeaikiiamhaaaPart1
set_option linter.all false
namespace Go.Proofs.Ytbfeaikiiamhaaa.Rc
open Go.Ab
/-! Games that are made node by node are well formed. -/
theorem kidsR_app (w : Nat → Int → Option Nat × Int) : ∀ (a b : List Int) (r : Nat) (m : Int), kidsR w (a ++ b) r m = (match kidsR w a r m with | (none, m) => (none, m) | (some r, m) => kidsR w b r m)
  | [], b, r, m => by simp [kidsR]
  | c :: a, b, r, m => by
    simp only [List.cons_append, kidsR]
    by_cases hc : c = r
    · rw [if_pos hc, if_pos hc]
      cases hh : w r m with
      | mk o m1 =>
        cases o with
        | none => rfl
        | some r1 => exact kidsR_app w a b r1 m1
    · rw [if_neg hc, if_neg hc]
/-- A subtree that stands from b on, of a height of at most h. -/
def Wlk (b h : Nat) (sub : List Nd) : Prop := ∀ (pre post : List Nd) (f : Nat) (dep m : Int), pre.length = b → sub.length ≤ f →
  ∃ m', walkR (pre ++ (sub ++ post)) f dep b m = (some (b + sub.length), m') ∧ m' ≤ max m (dep + h)
/-- Subtrees that stand from b on. -/
def Kds (b h : Nat) (nx : List Int) (subs : List Nd) : Prop := ∀ (pre post : List Nd) (f : Nat) (dep m : Int), pre.length = b → subs.length ≤ f →
  ∃ m', kidsR (walkR (pre ++ (subs ++ post)) f dep) nx b m = (some (b + subs.length), m') ∧ m' ≤ max m (dep + h)
theorem Kds.nil (b h : Nat) : Kds b h [] [] := fun pre post f dep m _ _ => ⟨m, by simp [kidsR], by omega⟩
theorem Kds.snoc {b h c : Nat} {nx : List Int} {subs sub : List Nd} (hk : Kds b h nx subs) (hw : Wlk c h sub) (hc : c = b + subs.length) : Kds b h (nx ++ [(c : Int)]) (subs ++ sub) := by
  subst hc
  intro pre post f dep m hb hf
  obtain ⟨m1, h1, h2⟩ := hk pre (sub ++ post) f dep m hb (by simp at hf; omega)
  obtain ⟨m2, h3, h4⟩ := hw (pre ++ subs) post f dep m1 (by simp [hb]) (by simp at hf; omega)
  refine ⟨m2, ?_, by omega⟩
  rw [kidsR_app]
  have e : pre ++ (subs ++ sub ++ post) = pre ++ (subs ++ (sub ++ post)) := by simp
  rw [e, h1]
  simp only [kidsR]
  have e2 : pre ++ (subs ++ (sub ++ post)) = pre ++ subs ++ (sub ++ post) := by simp
  rw [if_pos trivial, e2, h3]
  simp [Nat.add_assoc]
theorem Wlk.node {b h : Nat} {x : Nd} {subs : List Nd} (hk : Kds (b + 1) h x.nx subs) : Wlk b (h + 1) (x :: subs) := by
  intro pre post f dep m hb hf
  obtain ⟨f, rfl⟩ : ∃ g, f = g + 1 := ⟨f - 1, by simp at hf; omega⟩
  obtain ⟨m1, h1, h2⟩ := hk (pre ++ [x]) post f (dep + 1) (max m dep) (by simp [hb]) (by simp at hf; omega)
  refine ⟨m1, ?_, by omega⟩
  have e : pre ++ (x :: subs ++ post) = pre ++ [x] ++ (subs ++ post) := by simp
  have e1 : (pre ++ [x] ++ (subs ++ post))[b]? = some x := by
    subst hb; simp
  rw [e, walkR, e1]
  simp only
  rw [h1]
  simp; omega
theorem Wlk.leaf (b h : Nat) {x : Nd} (hx : x.nx = []) : Wlk b h [x] := by
  intro pre post f dep m hb hf
  obtain ⟨f, rfl⟩ : ∃ g, f = g + 1 := ⟨f - 1, by simp at hf; omega⟩
  refine ⟨max m dep, ?_, by omega⟩
  have e1 : (pre ++ ([x] ++ post))[b]? = some x := by
    subst hb; simp
  rw [walkR, e1]
  simp [hx, kidsR]
theorem Wlk.mono {b h h' : Nat} {sub : List Nd} (hw : Wlk b h sub) (hh : h ≤ h') : Wlk b h' sub := by
  intro pre post f dep m hb hf
  obtain ⟨m1, h1, h2⟩ := hw pre post f dep m hb hf
  exact ⟨m1, h1, by omega⟩
/-- The sets are met in their order. -/
def rg : List Nd → Nat → Option Nat
  | [], c => some c
  | x :: r, c => if x.k = 2 then (if x.i = c then rg r (c + 1) else if 0 ≤ x.i ∧ x.i < c then rg r c else none) else rg r c
theorem rg_app : ∀ (a b : List Nd) (c : Nat), rg (a ++ b) c = (rg a c).bind (rg b)
  | [], b, c => by simp [rg]
  | x :: a, b, c => by
    simp only [List.cons_append, rg]
    split
    · split
      · exact rg_app a b _
      · split
        · exact rg_app a b _
        · rfl
    · exact rg_app a b _
theorem rg_occ : ∀ {l : List Nd} {o c c' : Nat}, rg l c = some c' → (∀ s, c ≤ s → s < c' → occ s l o ≠ []) ∧ ∀ s t, c ≤ s → s < t → t < c' → (occ s l o).headD 0 < (occ t l o).headD 0
  | [], o, c, c', h => by simp [rg] at h; subst h; exact ⟨fun s h1 h2 => by omega, fun s t h1 h2 h3 => by omega⟩
  | x :: r, o, c, c', h => by
    simp only [rg] at h
    by_cases hk : x.k = 2
    · rw [if_pos hk] at h
      by_cases hi : x.i = c
      · rw [if_pos hi] at h
        obtain ⟨h1, h2⟩ := rg_occ (o := o + 1) h
        have e0 : occ c (x :: r) o = (o : Int) :: occ c r (o + 1) := by rw [occ]; rw [if_pos ⟨hk, by omega⟩]
        have e1 : ∀ s, c < s → occ s (x :: r) o = occ s r (o + 1) := fun s hs => by rw [occ]; rw [if_neg]; rintro ⟨_, h⟩; omega
        refine ⟨fun s h3 h4 => ?_, fun s t h3 h4 h5 => ?_⟩
        · by_cases hs : s = c
          · subst hs; rw [e0]; simp
          · rw [e1 s (by omega)]; exact h1 s (by omega) h4
        · by_cases hs : s = c
          · subst hs
            rw [e0, e1 t h4]
            have hne := h1 t (by omega) h5
            cases ho : occ t r (o + 1) with
            | nil => exact absurd ho hne
            | cons a q =>
              have : a ∈ occ t r (o + 1) := by rw [ho]; simp
              have := occ_lo this
              simp only [List.headD_cons]; omega
          · rw [e1 s (by omega), e1 t (by omega)]; exact h2 s t (by omega) h4 h5
      · rw [if_neg hi] at h
        by_cases hj : 0 ≤ x.i ∧ x.i < c
        · rw [if_pos hj] at h
          obtain ⟨h1, h2⟩ := rg_occ (o := o + 1) h
          have e1 : ∀ s, c ≤ s → occ s (x :: r) o = occ s r (o + 1) := fun s hs => by rw [occ]; rw [if_neg]; rintro ⟨_, h⟩; omega
          exact ⟨fun s h3 h4 => by rw [e1 s h3]; exact h1 s h3 h4, fun s t h3 h4 h5 => by rw [e1 s h3, e1 t (by omega)]; exact h2 s t h3 h4 h5⟩
        · rw [if_neg hj] at h; cases h
    · rw [if_neg hk] at h
      obtain ⟨h1, h2⟩ := rg_occ (o := o + 1) h
      have e1 : ∀ s, occ s (x :: r) o = occ s r (o + 1) := fun s => by rw [occ]; rw [if_neg]; rintro ⟨h, _⟩; exact hk h
      exact ⟨fun s h3 h4 => by rw [e1 s]; exact h1 s h3 h4, fun s t h3 h4 h5 => by rw [e1 s, e1 t]; exact h2 s t h3 h4 h5⟩
where
  occ_lo : ∀ {s : Nat} {l : List Nd} {o : Nat} {a : Int}, a ∈ occ s l o → (o : Int) ≤ a
    | s, [], o, a, h => by simp [occ] at h
    | s, x :: r, o, a, h => by
      unfold occ at h
      split at h
      · rcases List.mem_cons.1 h with rfl | h
        · omega
        · have := occ_lo h; omega
      · have := occ_lo h; omega
/-- A node is right by itself. -/
def Nd.good (x : Nd) (pl : Int) (is : List (Int × Int)) : Prop :=
  (x.k = 1 ∧ x.p = 0 ∧ x.i = 0 ∧ x.ps = [] ∧ 1 ≤ x.nx.length ∧ x.nx.length ≤ 60 ∧ x.ws.length = x.nx.length ∧ ∀ w ∈ x.ws, 1 ≤ w ∧ w ≤ 3) ∨
  (x.k = 2 ∧ x.ws = [] ∧ x.ps = [] ∧ 1 ≤ x.nx.length ∧ x.nx.length ≤ 10 ∧ 0 ≤ x.p ∧ x.p < pl ∧ 0 ≤ x.i ∧ is[x.i.toNat]? = some (x.p, (x.nx.length : Int))) ∨
  (x.k = 3 ∧ x.p = 0 ∧ x.i = 0 ∧ x.nx = [] ∧ x.ws = [] ∧ (x.ps.length : Int) = pl ∧ ∀ w ∈ x.ps, -1000000 ≤ w ∧ w ≤ 1000000)
theorem Nd.good.app {x : Nd} {pl : Int} {is : List (Int × Int)} (h : x.good pl is) (l : List (Int × Int)) : x.good pl (is ++ l) := by
  rcases h with h | ⟨a1, a2, a3, a4, a5, a6, a7, a8, a9⟩ | h
  · exact .inl h
  · exact .inr (.inl ⟨a1, a2, a3, a4, a5, a6, a7, a8, by rw [List.getElem?_append_left (getElem?_lt a9)]; exact a9⟩)
  · exact .inr (.inr h)
theorem within_all {lo hi : Int} {l : List Int} (h : ∀ w ∈ l, lo ≤ w ∧ w ≤ hi) : within lo hi l = 0 :=
  within_no fun j hj _ => by have := h _ (List.getElem_mem hj); simp only [outR, Bool.or_eq_false_iff, decide_eq_false_iff_not]; omega
theorem Nd.good.err {x : Nd} {g : Gm} (h : x.good g.pl g.is) : x.err g = 0 := by
  rcases h with ⟨a1, a2, a3, a4, a5, a6, a7, a8⟩ | ⟨a1, a2, a3, a4, a5, a6, a7, a8, a9⟩ | ⟨a1, a2, a3, a4, a5, a6, a7⟩
  · unfold Nd.err
    rw [if_neg (by omega), if_pos a1]
    unfold Nd.chance
    rw [if_neg (by rw [a4]; simp only [List.length_nil]; omega), within_all (fun w hw => by have := a8 w hw; omega)]
  · have := getElem?_lt a9
    unfold Nd.err
    rw [if_neg (by omega), if_neg (by omega), if_pos a1]
    unfold Nd.move
    rw [if_neg (by rw [a2, a3]; simp only [List.length_nil]; omega), within1, within1, if_neg (by omega), if_neg (by omega)]
  · unfold Nd.err
    rw [if_neg (by omega), if_neg (by omega), if_neg (by omega)]
    unfold Nd.end
    rw [if_neg (by rw [a4, a5]; simp only [List.length_nil]; omega), within_all a7]
theorem nodesE_all {g : Gm} : ∀ {l : List Nd}, (∀ x ∈ l, x.err g = 0) → nodesE g l = 0
  | [], _ => rfl
  | x :: r, h => by
    unfold nodesE
    rw [if_pos (h x (by simp))]
    exact nodesE_all fun y hy => h y (by simp [hy])
/-- A GAME THAT IS MADE NODE BY NODE IS WELL FORMED. -/
theorem made_ok {g : Gm} {h : Nat} (p1 : 1 ≤ g.pl) (p4 : g.pl ≤ 4) (n1 : 1 ≤ g.ns.length) (n2 : g.ns.length ≤ 2000) (i2 : g.is.length ≤ 200) (hw : Wlk 0 h g.ns) (hh : h ≤ 40)
    (hx : ∀ x ∈ g.ns, x.good g.pl g.is) (hr : rg g.ns 0 = some g.is.length) : g.formE = 0 := by
  rw [form_eq]
  unfold Gm.formR
  rw [if_neg (by unfold Gm.rng; omega), nodesE_all fun x h => (hx x h).err]
  obtain ⟨m, h1, h2⟩ := hw [] [] (g.ns.length + 1) 0 0 rfl (by omega)
  simp only [List.nil_append, List.append_nil, Nat.zero_add] at h1
  have e : g.wr = (some g.ns.length, m) := h1
  rw [if_neg (by simp), e, if_neg (by simp), if_neg (by simp only; omega)]
  unfold Gm.setsR
  obtain ⟨h3, h4⟩ := rg_occ (o := 0) hr
  have hs : ∀ k, k < g.sets.length → g.sets.getD k [] = occ k g.ns 0 := fun k hk => sets_at (by rw [← sets_len]; exact hk)
  rw [if_neg, if_neg, if_pos]
  · intro k hk
    have hl : k + 1 < g.sets.length := by omega
    rw [hs k (by omega), hs (k + 1) hl]
    have := h4 k (k + 1) (by omega) (by omega) (by rw [← sets_len]; exact hl)
    rw [← sets_len] at h3
    have a := h3 k (by omega) (by omega)
    have b := h3 (k + 1) (by omega) hl
    cases ha : occ k g.ns 0 with
    | nil => exact absurd ha a
    | cons u l =>
      cases hb : occ (k + 1) g.ns 0 with
      | nil => exact absurd hb b
      | cons v l' => rw [ha, hb] at this; simp at this ⊢; omega
  · intro hm
    obtain ⟨k, hk, e⟩ := List.getElem_of_mem hm
    have := hs k hk
    rw [List.getD_eq_getElem?_getD, List.getElem?_eq_getElem hk, Option.getD_some, e] at this
    exact h3 k (by omega) (by rw [← sets_len]; exact hk) this.symm
  · rintro ⟨x, hxm, hk, hne⟩
    rcases hx x hxm with h | h | h
    · omega
    · exact hne h.2.2.2.2.2.2.2.2
    · omega
end Go.Proofs.Ytbfeaikiiamhaaa.Rc

