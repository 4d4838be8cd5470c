/-
  Steps of the proof: contracts of functions and plain facts that the statement rests on.
-/
import Derived.Test.YtbfeaikiiamhaaaSK
import Derived.Test.YtbfeaikiiamhaaaCore4
set_option linter.all false
/- H1 -/
namespace Go.Proofs.Ytbfeaikiiamhaaa
open Go.Ab
theorem hm : Try.prog.follows .mixedOrders = true := Try.checked.mixed
theorem wrap_suc {i : Nat} (h : i < 9223372036854775807) : IntKind.i64.wrap ((i : Int) + 1) = ((i + 1 : Nat) : Int) := wrap_succ (by omega)
section
variable {H : List AO} {x y : SV} {l m : List Int}
theorem loop22 (hx : IsI H x l) (hy : IsI H y m) (hl : l.length < 4611686018427387904) (hlm : l.length = m.length) {N : Nat} {K : XE → Env → List AO → Prop}
    (hret : l ≠ m → ∀ env, env.get 4 = bl false → K .ret env H) (hexit : l = m → ∀ env, K (.exit 0) env H) :
    ∀ (n i : Nat) (env : Env), i + n = l.length → (∀ k (h : k < l.length), k < i → l[k] = m[k]'(by omega)) → env.get 0 = x → env.get 1 = y → env.get 5 = i64 i →
      LI Try.prog N drawB l22_0 env H K := by
  intro n
  induction n with
  | zero =>
    intro i env hi hp h0 h1 h5
    refine li_go hm l22_0.eq_1 ?_
    have e : i = l.length := by omega
    subst e
    simp -implicitDefEqProofs [h0, h1, h5, hx.vd, hx.ug, hx.sl, hx.len]
    exact hexit (List.ext_getElem hlm fun k h1 h2 => hp k h1 h1) _
  | succ n ih =>
    intro i env hi hp h0 h1 h5
    refine li_go hm l22_0.eq_1 ?_
    have hlt : i < l.length := by omega
    have hlt' : i < m.length := by omega
    simp -implicitDefEqProofs [h0, h1, h5, hlt, hlt', hx.vd, hx.ug, hx.sl, hx.len, hx.v hlt, hx.ok hlt, hy.vd, hy.ug, hy.sl, hy.len, hy.v hlt', hy.ok hlt']
    by_cases hc : l[i] = m[i]
    · rw [if_pos hc]
      refine ih (i + 1) _ (by omega) ?_ ?_ ?_ ?_
      rotate_left
      · simp [h0]
      · simp [h1]
      · simp [wrap_suc (show i < 9223372036854775807 by omega)]
      intro k hk hki
      by_cases e : k = i
      · subst e; exact hc
      · exact hp k hk (by omega)
    · rw [if_neg hc]
      exact hret (fun e => hc (by subst e; rfl)) _ (by simp)
theorem ok22 (hx : IsI H x l) (hy : IsI H y m) (hl : l.length < 4611686018427387904) : Ok Try.prog 22 [x, y] H (.ret (bl (decide (l = m)))) H := by
  refine ok_fn hm Try.func22 c22 (by simp) fun hcl => ?_
  by_cases hlm : l.length = m.length
  · simp -implicitDefEqProofs [i22, r22, hx.vd, hx.ug, hx.sl, hx.len, hy.vd, hy.ug, hy.sl, hy.len, hlm]
    refine loop22 hx hy hl hlm (fun hne env h4 => ?_) (fun he env => ?_) l.length 0 _ (by omega) (by omega) (by simp) (by simp) (by simp)
    · simp -implicitDefEqProofs [h4, hne]
      exact cv_id
    · simp -implicitDefEqProofs [he]
      exact cv_id
  · simp -implicitDefEqProofs [i22, r22, hx.vd, hx.ug, hx.sl, hx.len, hy.vd, hy.ug, hy.sl, hy.len, show ¬ ((l.length : Int) = m.length) by omega, hlm]
    have : l ≠ m := fun e => hlm (by rw [e])
    simp [this]
    exact cv_id
theorem ok22s (hx : IsI H x l) (hy : IsI H y l) (hl : l.length < 4611686018427387904) : Ok Try.prog 22 [x, y] H (.ret (bl true)) H := by simpa using ok22 hx hy hl
end
end Go.Proofs.Ytbfeaikiiamhaaa

/- H2 -/
namespace Go.Proofs.Ytbfeaikiiamhaaa
open Go.Ab
def sl (l : List Int) : SV := .slc (ints l) l.length
def rest : Int → List Int → Int
  | s, [] => s
  | s, r :: l => rest (s / r) l
section
variable {H : List AO} {x : SV} {l : List Int}
end
end Go.Proofs.Ytbfeaikiiamhaaa

/- H3 -/
namespace Go.Proofs.Ytbfeaikiiamhaaa
open Go.Ab
section
variable {H : List AO} {x : SV} {l : List Int}
end
end Go.Proofs.Ytbfeaikiiamhaaa

/- H4 -/
namespace Go.Proofs.Ytbfeaikiiamhaaa
open Go.Ab
section
variable {H : List AO} {x : SV} {l : List Int}
end
end Go.Proofs.Ytbfeaikiiamhaaa

/- H5 -/
namespace Go.Proofs.Ytbfeaikiiamhaaa
open Go.Ab
section
variable {H : List AO} {x y : SV} {l d : List Int}
end
end Go.Proofs.Ytbfeaikiiamhaaa

/- H6 -/
namespace Go.Proofs.Ytbfeaikiiamhaaa
open Go.Ab
section
variable {H : List AO} {x y : SV} {l d : List Int}
end
end Go.Proofs.Ytbfeaikiiamhaaa

/- H7 -/
namespace Go.Proofs.Ytbfeaikiiamhaaa
open Go.Ab
theorem IsI.sl (H : List AO) (l : List Int) : IsI H (sl l) l := IsI.slc H l
theorem awake_ok {H : List AO} : Ok Try.prog 11 [] H (.ret (bl true)) H := ok_lift ok11 rfl
end Go.Proofs.Ytbfeaikiiamhaaa

/- H8 -/
namespace Go.Proofs.Ytbfeaikiiamhaaa
open Go.Ab
def swp (d : List Int) (i j : Nat) : List Int := (d.set i (d.getD j 0)).set j (d.getD i 0)
section
variable {H : List AO}
theorem ints_setd {l : List Int} {k : Nat} (h : k < l.length) (v : Int) : (ints l).set k (i64 v) = ints (l.set k v) := by
  simp [ints, List.map_set]
theorem ints_sf {l : List Int} {k : Nat} (h : k < l.length) (v : Int) : (ints l).take k ++ i64 v :: (ints l).drop (k + 1) = ints (l.set k v) := by
  rw [← ints_setd h, List.set_eq_take_append_cons_drop, if_pos (by simpa using h)]
end
end Go.Proofs.Ytbfeaikiiamhaaa

/- H9 -/
namespace Go.Proofs.Ytbfeaikiiamhaaa
open Go.Ab
def rd (n i : Nat) : List Int := (List.range n).map fun k => if k < i then (n : Int) - k else 0
def rad (n : Nat) : List Int := rd n n
def cnt (n : Nat) : Nat → Int
  | 0 => 1
  | i + 1 => cnt n i * ((n : Int) - i)
theorem rd_len (n i : Nat) : (rd n i).length = n := by simp [rd]
theorem rd_set {n i : Nat} (h : i < n) : (rd n i).set i ((n : Int) - i) = rd n (i + 1) := by
  apply List.ext_getElem (by simp [rd_len])
  intro k h1 h2
  simp only [rd, List.getElem_set, List.getElem_map, List.getElem_range]
  split
  · rename_i e; subst e; simp
  · by_cases hk : k < i
    · rw [if_pos hk, if_pos (by omega)]
    · rw [if_neg hk, if_neg (by omega)]
theorem cnt_rng : ∀ n < 18, ∀ i < 18, i ≤ n → 1 ≤ cnt n i ∧ cnt n i ≤ 355687428096000 := by decide
section
variable {H : List AO}
theorem loop23 {n : Nat} (hn : n ≤ 17) {e1 : SV} {N : Nat} {K : XE → Env → List AO → Prop}
    (hexit : ∀ env, env.get 0 = i64 n → env.get 1 = e1 → env.get 6 = .own H.length 0 n 1 0 → env.get 7 = i64 (cnt n n) → K (.exit 0) env (H ++ [⟨ints (rad n), 3, 0, true⟩])) :
    ∀ (k i : Nat) (env : Env), i + k = n → env.get 0 = i64 n → env.get 1 = e1 → env.get 6 = .own H.length 0 n 1 0 → env.get 7 = i64 (cnt n i) → env.get 21 = i64 n → env.get 22 = i64 i → LI Try.prog N drawB l23_0 env (H ++ [⟨ints (rd n i), 3, 0, true⟩]) K := by
  intro k
  induction k with
  | zero =>
    intro i env hi h0 h1 h6 h7 h21 h22
    refine li_go hm l23_0.eq_1 ?_
    have e : i = n := by omega
    subst e
    simp -implicitDefEqProofs [h0, h1, h6, h7, h21, h22]
    refine hexit _ ?_ ?_ ?_ ?_ <;> simp [h0, h1, h6, h7]
  | succ k ih =>
    intro i env hi h0 h1 h6 h7 h21 h22
    refine li_go hm l23_0.eq_1 ?_
    have hlt : i < n := by omega
    have hlt' : (i : Int) < n := by omega
    have hl := rd_len n i
    have hc := cnt_rng n (by omega) i (by omega) (by omega)
    have hc2 := cnt_rng n (by omega) (i + 1) (by omega) (by omega)
    have w2 : IntKind.i64.wrap ((n : Int) - i) = (n : Int) - i := wrap_id (by omega) (by omega)
    have w3 : IntKind.i64.wrap (cnt n i * ((n : Int) - i)) = cnt n (i + 1) := wrap_id (by show -_ ≤ cnt n (i + 1); omega) (by show cnt n (i + 1) ≤ _; omega)
    simp -implicitDefEqProofs [h0, h1, h6, h7, h21, h22, hlt, hlt', hl, w2, w3, wrap_suc (show i < 9223372036854775807 by omega)]
    refine ⟨by omega, ?_⟩
    refine LI.cong (H' := H ++ [⟨ints (rd n (i + 1)), 3, 0, true⟩]) (by rw [← rd_set hlt, ← ints_sf (by omega)]) (ih (i + 1) _ (by omega) ?_ ?_ ?_ ?_ ?_ ?_)
    all_goals simp [h0, h1, h6, h21]
end
end Go.Proofs.Ytbfeaikiiamhaaa

/- H10 -/
namespace Go.Proofs.Ytbfeaikiiamhaaa
open Go.Ab
def rng (n : Nat) : List Int := (List.range n).map fun k : Nat => (k : Int)
theorem rng_len (n : Nat) : (rng n).length = n := by simp [rng]
section
variable {H : List AO}
end
end Go.Proofs.Ytbfeaikiiamhaaa

/- H11 -/
namespace Go.Proofs.Ytbfeaikiiamhaaa
open Go.Ab
structure RI (n : Nat) (o : List Int) (i : Nat) (l : List Int) : Prop where
  perm : l.Perm (rng n)
  tk : l.take i = o.take i
theorem RI.len {n : Nat} {o : List Int} {i : Nat} {l : List Int} (h : RI n o i l) : l.length = n := by rw [h.perm.length_eq, rng_len]
theorem RI.zero (n : Nat) (o : List Int) : RI n o 0 (rng n) := ⟨List.Perm.refl _, by simp⟩
theorem RI.found {n : Nat} {o : List Int} {i : Nat} {l : List Int} (h : RI n o i l) {x : Int} (hi : i ≤ n) : i + (l.drop i).idxOf x ≠ n ↔ x ∈ l.drop i := by
  have hl := h.len
  have hd : (l.drop i).length = n - i := by simp [hl]
  rw [← List.idxOf_lt_length_iff]
  have := List.idxOf_le_length (a := x) (l := l.drop i)
  omega
theorem swp_eq {l : List Int} {i k : Nat} (hi : i < l.length) (hk : k < l.length) : swp l i k = (l.set i l[k]).set k l[i] := by
  simp only [swp]
  rw [List.getD_eq_getElem?_getD, List.getElem?_eq_getElem hk, List.getD_eq_getElem?_getD, List.getElem?_eq_getElem hi]; rfl
theorem RI.step {n : Nat} {o : List Int} {i : Nat} {l : List Int} (h : RI n o i l) (hi : i < n) (ho : i < o.length) (hx : o[i] ∈ l.drop i) : RI n o (i + 1) (swp l i (i + (l.drop i).idxOf o[i])) := by
  have hl := h.len
  have hlt := List.idxOf_lt_length_iff.2 hx
  have hg := List.getElem_idxOf hlt
  generalize hk : (l.drop i).idxOf o[i] = k at hlt hg
  rw [List.getElem_drop] at hg
  have hkn : i + k < l.length := by simp at hlt; omega
  rw [swp_eq (by omega) hkn]
  refine ⟨(List.set_set_perm (by omega) hkn).trans h.perm, ?_⟩
  apply List.ext_getElem?
  intro j
  rw [List.getElem?_take, List.getElem?_take]
  by_cases hj : j < i + 1
  · rw [if_pos hj, if_pos hj]
    by_cases hji : j = i
    · subst hji
      rw [List.getElem?_eq_getElem ho]
      by_cases hk0 : k = 0
      · subst hk0
        simp only [Nat.add_zero] at hg ⊢
        rw [List.getElem?_set_self (by simp; omega), hg]
      · rw [List.getElem?_set_ne (by omega), List.getElem?_set_self (by omega), hg]
    · rw [List.getElem?_set_ne (by omega), List.getElem?_set_ne (by omega)]
      have := congrArg (·[j]?) h.tk
      simpa [List.getElem?_take, show j < i by omega] using this
  · rw [if_neg hj, if_neg hj]
end Go.Proofs.Ytbfeaikiiamhaaa

/- H12 -/
namespace Go.Proofs.Ytbfeaikiiamhaaa
open Go.Ab
section
variable {H : List AO} {x : SV} {o : List Int}
end
end Go.Proofs.Ytbfeaikiiamhaaa

/- H13 -/
namespace Go.Proofs.Ytbfeaikiiamhaaa
open Go.Ab
section
variable {H : List AO} {x : SV} {o : List Int}
end
end Go.Proofs.Ytbfeaikiiamhaaa

/- H14 -/
namespace Go.Proofs.Ytbfeaikiiamhaaa
open Go.Ab
def tb (l : List Int) : List SV := (List.range 17).map fun c : Nat => bl (decide ((c : Int) ∈ l))
section
variable {H : List AO} {x : SV} {o : List Int}
end
end Go.Proofs.Ytbfeaikiiamhaaa

/- H15 -/
namespace Go.Proofs.Ytbfeaikiiamhaaa
open Go.Ab
section
variable {H : List AO} {x : SV} {o : List Int}
end
end Go.Proofs.Ytbfeaikiiamhaaa

/- H16 -/
namespace Go.Proofs.Ytbfeaikiiamhaaa
open Go.Ab
end Go.Proofs.Ytbfeaikiiamhaaa

/- H17 -/
namespace Go.Proofs.Ytbfeaikiiamhaaa
open Go.Ab
def code (l : List Int) : Int := l.foldl (fun c x => c * 6 + x) 0
end Go.Proofs.Ytbfeaikiiamhaaa

/- H18 -/
namespace Go.Proofs.Ytbfeaikiiamhaaa
open Go.Ab
section
variable {H : List AO}
end
end Go.Proofs.Ytbfeaikiiamhaaa

/- H19 -/
namespace Go.Proofs.Ytbfeaikiiamhaaa
open Go.Ab
section
variable {H : List AO}
end
end Go.Proofs.Ytbfeaikiiamhaaa

/- H20 -/
namespace Go.Proofs.Ytbfeaikiiamhaaa
open Go.Ab
end Go.Proofs.Ytbfeaikiiamhaaa

/- H21 -/
namespace Go.Proofs.Ytbfeaikiiamhaaa
open Go.Ab
section
variable {H : List AO}
/-- The next number, and where the list then stands. -/
def nx (l : List Int) (a : Nat) (n : Int) : Int × Nat := if l.length ≤ a ∨ n < 1 then (0, a) else (l.getD a 0 % n, a + 1)
end
end Go.Proofs.Ytbfeaikiiamhaaa

/- H22 -/
namespace Go.Proofs.Ytbfeaikiiamhaaa
open Go.Ab
section
variable {H : List AO} {x : SV} {l : List Int}
end
end Go.Proofs.Ytbfeaikiiamhaaa

