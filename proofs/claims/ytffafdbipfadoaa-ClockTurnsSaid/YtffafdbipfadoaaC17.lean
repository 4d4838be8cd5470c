/-
  Steps of the proof: contracts of functions and plain facts that the statement rests on.
-/
import Derived.Test.YtffafdbipfadoaaC16
set_option linter.all false
namespace Go.Proofs.Ytffafdbipfadoaa
open Go.Ab
theorem go_snoc {t : Tk} {c2 : Ck} : ∀ (ts : List Tk) {c c1 : Ck} (i : Nat), c.go ts i = (c1, 0, 0) → c1.turn t = (c2, 0) → c.go (ts ++ [t]) i = (c2, 0, 0)
  | [], c, c1, i, h1, h2 => by
    simp only [Ck.go] at h1
    cases h1
    simp [Ck.go, h2]
  | s :: r, c, c1, i, h1, h2 => by
    simp only [List.cons_append, Ck.go] at h1 ⊢
    split at h1
    · rename_i h3
      simp only [Prod.mk.injEq] at h1
      exact absurd h1.2.1 h3
    · rename_i h3
      rw [if_neg h3]
      exact go_snoc r (i + 1) h1 h2
/-- A clock that stands. -/
def stc (L : List Int) (a f now : Int) : Ck := ⟨L, a, f, -1, 0, now, -1⟩
theorem stc_good {L : List Int} {a f now : Int} (h1 : 1 ≤ L.length) (h4 : L.length ≤ 4) (hL : ∀ n ∈ L, 0 ≤ n ∧ n ≤ 1000000000) (ha : 0 ≤ a ∧ a ≤ 10000000) (hf : 0 ≤ f ∧ f ≤ 10000000) (hn : 0 ≤ now ∧ now ≤ 1000000000000) : Good (stc L a f now) :=
  ⟨h1, h4, hL, ha.1, ha.2, hf.1, hf.2, by simp [stc], hn.1, hn.2, by simp [stc], by simp [stc]; omega, by simp [stc], by simp [stc]; omega, by simp [stc], by simp [stc], by simp [stc]⟩
theorem stc_turn {L : List Int} {a f now p fr to : Int} (h1 : 1 ≤ L.length) (h4 : L.length ≤ 4) (hL : ∀ n ∈ L, 0 ≤ n ∧ n ≤ 1000000000) (ha : 0 ≤ a ∧ a ≤ 10000000) (hf : 0 ≤ f ∧ f ≤ 10000000) (hn : 0 ≤ now) (hp : 0 ≤ p) (hp' : p < L.length)
    (t1 : now ≤ fr) (t2 : fr ≤ to) (t3 : to ≤ 1000000000000) (hk : p.toNat < L.length) (hu : max 0 (to - fr - f) ≤ L[p.toNat]) (hm : L[p.toNat] - max 0 (to - fr - f) + a ≤ 1000000000) :
    (stc L a f now).turn ⟨p, fr, to⟩ = (stc (L.set p.toNat (L[p.toNat] - max 0 (to - fr - f) + a)) a f to, 0) := by
  have hg := stc_good h1 h4 hL ha hf (now := now) ⟨hn, by omega⟩
  have hc := (Ck.good _).2 hg
  have e1 : (stc L a f now).start p fr = (⟨L, a, f, p, fr, fr, -1⟩, 0) := by
    unfold Ck.start
    have : (stc L a f now).tim fr = 0 := by
      unfold Ck.tim
      rw [if_pos hc, if_pos (by omega), if_neg (by simp [stc]; omega)]
    rw [if_neg (by rw [this]; simp), if_neg (by simp [Ck.ste, stc]), if_pos (by simp [stc]; omega)]
    rfl
  have hg2 : Good ⟨L, a, f, p, fr, fr, -1⟩ := ⟨h1, h4, hL, ha.1, ha.2, hf.1, hf.2, by simp; omega, by simp, by simp; omega, by simp; omega, by simp; omega, by simp, by simp; omega, by simp, by simp; omega, by simp⟩
  have e2 : (Ck.mk L a f p fr fr (-1)).stop to = (stc (L.set p.toNat (L[p.toNat] - max 0 (to - fr - f) + a)) a f to, 0) := by
    unfold Ck.stop
    have : (Ck.mk L a f p fr fr (-1)).tim to = 0 := by
      unfold Ck.tim
      rw [if_pos ((Ck.good _).2 hg2), if_pos (by omega), if_neg (by simp; omega)]
    rw [if_neg (by rw [this]; simp), if_neg (by rw [ste_true]; simp; omega)]
    have e3 : (Ck.mk L a f p fr fr (-1)).used to = max 0 (to - fr - f) := rfl
    have e4 : (Ck.mk L a f p fr fr (-1)).L.getD p.toNat 0 = L[p.toNat] := by simp [hk]
    simp only [e3, e4]
    rw [if_neg (by omega), show min (L[p.toNat] - max 0 (to - fr - f) + a) 1000000000 = L[p.toNat] - max 0 (to - fr - f) + a by omega]
    rfl
  unfold Ck.turn
  simp only [e1]
  simpa using e2
/-- What holds behind i turns. -/
structure Tn (n : Nat) (A F : Int) (i : Nat) (now : Int) (L : List Int) (ts : List Tk) : Prop where
  len : L.length = n
  lo : ∀ x ∈ L, 3600000 - 20000 * (i : Int) ≤ x
  hi : ∀ x ∈ L, x ≤ 3600000 + 5000 * (i : Int)
  n0 : 0 ≤ now
  n1 : now ≤ 21000 * (i : Int)
  tl : ts.length = i
  go : (stc (List.replicate n 3600000) A F 0).go ts 0 = (stc L A F now, 0, 0)
theorem Tn.zero (n : Nat) (A F : Int) : Tn n A F 0 0 (List.replicate n 3600000) [] :=
  ⟨by simp, by simp, by simp, by simp, by simp, rfl, rfl⟩
theorem Tn.step {n : Nat} {A F : Int} {i : Nat} {now : Int} {L : List Int} {ts : List Tk} (h : Tn n A F i now L ts) (hn : 2 ≤ n ∧ n ≤ 4) (hA : 0 ≤ A ∧ A < 5000) (hF : 0 ≤ F ∧ F < 5000) (hi : i < 30) {p d e : Int} (hp : 0 ≤ p ∧ p < n) (hd : 0 ≤ d ∧ d < 1000) (he : 0 ≤ e ∧ e < 20000)
    (hk : p.toNat < L.length) : Tn n A F (i + 1) (now + d + e) (L.set p.toNat (L[p.toNat] - max 0 (now + d + e - (now + d) - F) + A)) (ts ++ [⟨p, now + d, now + d + e⟩]) := by
  have h1 := h.lo _ (List.getElem_mem hk)
  have h2 := h.hi _ (List.getElem_mem hk)
  have hl := h.len
  have n0 := h.n0
  have n1 := h.n1
  refine ⟨by simp [hl], ?_, ?_, by omega, by omega, by simp [h.tl], ?_⟩
  · intro x hx
    rcases List.mem_or_eq_of_mem_set hx with hx | hx
    · have := h.lo x hx; omega
    · omega
  · intro x hx
    rcases List.mem_or_eq_of_mem_set hx with hx | hx
    · have := h.hi x hx; omega
    · omega
  · refine go_snoc ts 0 h.go (stc_turn (by omega) (by omega) (fun x hx => ?_) (by omega) (by omega) n0 hp.1 (by omega) (by omega) (by omega) (by omega) hk (by omega) (by omega))
    have := h.lo x hx
    have := h.hi x hx
    omega
end Go.Proofs.Ytffafdbipfadoaa
