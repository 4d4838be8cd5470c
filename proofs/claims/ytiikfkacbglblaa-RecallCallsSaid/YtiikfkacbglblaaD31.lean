/-
  Steps of the proof: contracts of functions and plain facts that the statement rests on.
-/
import Derived.Test.YtiikfkacbglblaaD30
set_option linter.all false
namespace Go.Proofs.Ytiikfkacbglblaa
open Go.Ab
section
variable {H : List AO} {g : Gm}
/-- The set of a flaw. -/
theorem flaws_info {f : Fl} (hf : f ∈ g.flaws) : 0 ≤ f.i ∧ f.i < g.is.length := by
  have hsk : ∀ (r : List Int) (i : Nat) (pl n0 : Int) (first : List (Int × Int)) (l : List Fl), i < g.is.length → (∀ f ∈ l, 0 ≤ f.i ∧ f.i < g.is.length) → ∀ f ∈ (seekS g (fun _ _ => true) nxF i pl n0 first r l).2, 0 ≤ f.i ∧ f.i < g.is.length := by
    intro r
    induction r with
    | nil => intro i pl n0 first l hi hl; simpa [seekS] using hl
    | cons v r ih =>
      intro i pl n0 first l hi hl
      rw [seek_true]
      refine ih i pl n0 first _ hi (fun f hf => ?_)
      unfold stepF at hf
      have key : ∀ f ∈ (if 0 ≤ g.deep v.toNat pl i then l ++ [⟨1, v, i, g.deep v.toNat pl i⟩] else l), 0 ≤ f.i ∧ f.i < g.is.length := by
        intro f hf
        split at hf
        · rcases List.mem_append.1 hf with h | h
          · exact hl f h
          · simp only [List.mem_singleton] at h; subst h; simp only; omega
        · exact hl f hf
      split at hf
      · exact key f hf
      · rcases List.mem_append.1 hf with h | h
        · exact key f h
        · simp only [List.mem_singleton] at h; subst h; simp only; omega
  have : ∀ (n i : Nat) (l : List Fl), (∀ f ∈ l, 0 ≤ f.i ∧ f.i < g.is.length) → ∀ f ∈ setsL g (fun _ _ => true) nxF (fun _ => true) false n i l, 0 ≤ f.i ∧ f.i < g.is.length := by
    intro n
    induction n with
    | zero => intro i l hl; simpa [setsL] using hl
    | succ n ih =>
      intro i l hl
      unfold setsL
      by_cases hls : i < g.sets.length
      · have hlt : i < g.is.length := by rw [← sets_len]; exact hls
        rw [List.getElem?_eq_getElem hls, List.getElem?_eq_getElem hlt]
        simp only [if_true]
        rw [if_neg (by simp)]
        exact ih _ _ (hsk _ _ _ _ _ _ hlt hl)
      · rw [List.getElem?_eq_none (by omega)]
        exact hl
  exact this _ _ _ (by simp) f hf
theorem fls_drop : ∀ {l : List Fl} {k : Nat} (h : k < l.length), (fls l).drop (4 * k) = i64 l[k].k :: i64 l[k].n :: i64 l[k].i :: i64 l[k].o :: fls (l.drop (k + 1))
  | [], k, h => by simp at h
  | x :: r, 0, h => rfl
  | x :: r, k + 1, h => by
    rw [show 4 * (k + 1) = 4 * k + 4 by omega]
    simp only [fls, List.drop_succ_cons]
    rw [fls_drop (l := r) (k := k) (by simpa using h)]
    simp
theorem fls_at {l : List Fl} {k : Nat} (h : k < l.length) : (fls l).drop (k * 4) = i64 l[k].k :: i64 l[k].n :: i64 l[k].i :: i64 l[k].o :: fls (l.drop (k + 1)) := by rw [Nat.mul_comm, fls_drop h]
theorem fls_g2 {l : List Fl} {k : Nat} (h : k < l.length) : (fls l)[k * 4 + 2]? = some (i64 l[k].i) := by
  rw [← List.getElem?_drop, fls_at h]; rfl
theorem fls_min {l : List Fl} {k : Nat} (h : k < l.length) : min 4 ((fls l).length - k * 4) = 4 := by rw [fls_len]; omega
theorem fls_ge {l : List Fl} {k : Nat} (h : k < l.length) : 4 ≤ (fls l).length - k * 4 := by rw [fls_len]; omega
def plAt (g : Gm) (i : Int) : Int := match g.is[i.toNat]? with | some x => x.1 | none => 0
def Gm.perfR (g : Gm) (pl : Int) : Bool := decide (¬ ∃ f ∈ g.flaws, plAt g f.i = pl)
set_option maxRecDepth 10000 in
theorem loop54 {l : List Fl} (hl : l.length ≤ 1000000) (hin : ∀ f ∈ l, 0 ≤ f.i ∧ f.i < g.is.length) {pl : Int} {N : Nat} {K : XE → Env → List AO → Prop}
    (hret : (∃ f ∈ l, plAt g f.i = pl) → ∀ env, env.get 4 = bl false → K .ret env (H ++ [gbox g])) (hexit : (¬ ∃ f ∈ l, plAt g f.i = pl) → ∀ env, K (.exit 0) env (H ++ [gbox g])) :
    ∀ (n k : Nat) (env : Env), k + n = l.length → (∀ t (h : t < l.length), t < k → plAt g l[t].i ≠ pl) → env.get 1 = i64 pl → env.get 2 = .ptr (.own H.length 0 0 0 0) 0 → env.get 5 = fs l → env.get 6 = i64 k →
      LI Try.prog N drawB l54_0 env (H ++ [gbox g]) K := by
  intro n
  induction n with
  | zero =>
    intro k env hk hp h1 h2 h5 h6
    refine li_go hm l54_0.eq_1 ?_
    have e : k = l.length := by omega
    subst e
    simp -implicitDefEqProofs [h1, h2, h5, h6, fs]
    refine hexit ?_ _
    rintro ⟨f, hf, hh⟩
    obtain ⟨t, ht, rfl⟩ := List.getElem_of_mem hf
    exact hp t ht ht hh
  | succ n ih =>
    intro k env hk hp h1 h2 h5 h6
    refine li_go hm l54_0.eq_1 ?_
    have hlt : k < l.length := by omega
    have w1 : IntKind.i64.wrap ((k : Int) + 1) = ((k + 1 : Nat) : Int) := wrap_succ (by omega)
    have hi := hin _ (List.getElem_mem hlt)
    have hit : l[k].i.toNat < g.is.length := by omega
    have hpa : plAt g l[k].i = g.is[l[k].i.toNat].1 := by unfold plAt; rw [List.getElem?_eq_getElem hit]
    simp -implicitDefEqProofs [h1, h2, h5, h6, fs, hlt, gbox, fls_g2 hlt, fls_len, hi.1, hi.2, infs_g0 hit, infs_len]
    refine ⟨by omega, by omega, ?_⟩
    by_cases hc : g.is[l[k].i.toNat].1 = pl
    · rw [if_pos hc]
      exact hret ⟨_, List.getElem_mem hlt, by rw [hpa]; exact hc⟩ _ (by simp)
    · rw [if_neg hc, w1]
      refine ih (k + 1) _ (by omega) ?_ ?_ ?_ ?_ ?_
      rotate_left
      · simp
      · simp
      · simp [fs]
      · simp
      intro t ht htk
      by_cases e : t = k
      · subst e; rw [hpa]; exact hc
      · exact hp t ht (by omega)
theorem ok54 (hW : Wg g) (pl : Int) : Ok Try.prog 54 [.agg g.cells, i64 pl] H (.ret (bl (g.perfR pl))) H := by
  refine ok_fn hm Try.func54 c54 (by simp) fun hcl => ?_
  simp -implicitDefEqProofs [i54, r54, Gm.cells]
  have hh := fun H => ok55 (H := H) hW
  simp only [Gm.cells] at hh
  refine call_go (hh _) ?_
  simp -implicitDefEqProofs
  refine loop54 (g := g) (l := g.flaws) (flaws_len hW) (fun f hf => flaws_info hf) (pl := pl) (fun hx env h4 => ?_) (fun hx env => ?_) g.flaws.length 0 _ (by omega) (by omega) (by simp) (by simp) (by simp) (by simp)
  · simp -implicitDefEqProofs [h4]
    refine cv_fz 1 hcl rfl ?_
    simp only [Gm.perfR, decide_not, hx, decide_true, Bool.not_true]
    simp
  · simp -implicitDefEqProofs
    refine cv_fz 1 hcl rfl ?_
    simp only [Gm.perfR, decide_not, hx, decide_false, Bool.not_false]
    simp
def Gm.perfRV (g : Gm) (pl : Int) : Bool := if g.perfE pl = 0 then g.perfR pl else false
theorem ok26 (pl : Int) : Ok Try.prog 26 [.agg g.cells, i64 pl] H (.ret (.tup [bl (g.perfRV pl), i64 (g.perfE pl)])) H := by
  refine ok_fn hm Try.func26 c26 (by simp) fun hcl => ?_
  simp -implicitDefEqProofs [i26, r26, Gm.cells]
  have hh := fun H => ok13 (H := H) (g := g)
  simp only [Gm.cells] at hh
  refine call_go (hh _) ?_
  rw [formE_R]
  by_cases h : g.formE = 0
  · have hW := wg_of h
    simp -implicitDefEqProofs [h]
    split
    · rename_i hc
      have hE : g.perfE pl = 2 := by unfold Gm.perfE; rw [if_neg (by simpa using h), if_pos (by omega)]
      refine cv_fz 2 hcl rfl ?_
      simp [Gm.perfRV, hE]
    · rename_i hc
      have hE : g.perfE pl = 0 := by unfold Gm.perfE; rw [if_neg (by simpa using h), if_neg (by omega)]
      have hh := fun H => ok54 (H := H) hW pl
      simp only [Gm.cells] at hh
      refine call_go (hh _) ?_
      simp -implicitDefEqProofs
      refine cv_fz 2 hcl rfl ?_
      simp [Gm.perfRV, hE]
  · have hE : g.perfE pl = g.formE := by unfold Gm.perfE; rw [if_pos h]
    simp -implicitDefEqProofs [h]
    refine cv_fz 2 hcl rfl ?_
    simp [Gm.perfRV, hE, h]
def Gm.flawsR (g : Gm) : SV := g.out nl (fs g.flaws)
theorem ok27 : Ok Try.prog 27 [.agg g.cells] H (.ret g.flawsR) H := by
  refine ok_fn hm Try.func27 c27 (by simp) fun hcl => ?_
  simp -implicitDefEqProofs [i27, r27, Gm.cells]
  have hh := fun H => ok13 (H := H) (g := g)
  simp only [Gm.cells] at hh
  refine call_go (hh _) ?_
  rw [formE_R]
  by_cases h : g.formE = 0
  · simp -implicitDefEqProofs [h]
    have hh := fun H => ok55 (H := H) (wg_of h)
    simp only [Gm.cells] at hh
    refine call_go (hh _) ?_
    have hf : ∀ L d, SV.fz H.length [] L (d + 1) (fs g.flaws) = fs g.flaws := fun L d => fz_under fs_under
    simp -implicitDefEqProofs
    refine cv_fz 2 hcl rfl ?_
    simp [Gm.flawsR, Gm.out, h, hf]
  · simp -implicitDefEqProofs [h]
    refine cv_fz 2 hcl rfl ?_
    simp [Gm.flawsR, Gm.out, h]
end
end Go.Proofs.Ytiikfkacbglblaa
