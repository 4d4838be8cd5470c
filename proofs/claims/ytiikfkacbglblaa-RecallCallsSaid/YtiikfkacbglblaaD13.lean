/-
  Steps of the proof: contracts of functions and plain facts that the statement rests on.
-/
import Derived.Test.YtiikfkacbglblaaIr11
import Derived.Test.YtiikfkacbglblaaCore4
set_option linter.all false
namespace Go.Ab
/-- A value that leads nowhere. -/
def SV.lone : SV → Bool
  | .val _ => true
  | _ => false
theorem ok_lift {P : Program} {k : FuncId} {args : List SV} {v : Value} (h : Ok P k args [] (.ret (.val v)) []) (hu : SV.underL 0 args = true) {H : List AO} : Ok P k args H (.ret (.val v)) H := by
  refine ⟨h.1, ?_⟩
  intro S vs hH hS hvs
  subst hH
  have h0 := ext_drop (S := S) (Nat.zero_le _)
  have hs0 := sim_drop hS (Nat.zero_le _) (fun i o hi => by omega)
  have e0 : S.H.take 0 = [] := rfl
  rw [e0] at h0 hs0
  have h1 := h.2 ⟨S.ρ, [], S.w⟩ vs rfl hs0 (hvs.extB h0 hu)
  refine h1.mono ?_
  rintro en w' ⟨u, ρ', hext, hsim, he, hv⟩
  have hn : ∀ b, ¬ (⟨S.ρ, [], S.w⟩ : St).rw b := by rintro b ⟨i, o, ho, _⟩; simp at ho
  have hheap : ∀ b, b < S.w.heap.size → w'.heap[b]? = S.w.heap[b]? := fun b hb => (hext.imm b hb (hn b)).1
  have hx : Ext S.H.length S ⟨S.ρ, S.H, w'⟩ := by
    refine ⟨fun i o hi ho => ⟨o, ho, Nat.le_refl _, fun _ => rfl⟩, fun b hb hnr => ⟨hheap b hb, ?_⟩, hext.size, hext.shape, hext.os, hext.tape, hext.output⟩
    rintro ⟨i, o, ho, hl, hr⟩
    exact hnr ⟨i, o, ho, hl, hr⟩
  refine ⟨u, S.ρ, hx, ⟨?_, ?_, ?_⟩, he, ?_⟩
  · intro i o ho hl
    have h2 := hS.live i o ho hl
    cases hr : S.ρ i with
    | none => rw [hr] at h2; exact h2
    | some b =>
      rw [hr] at h2
      obtain ⟨us, rest, h3, h4⟩ := h2
      have hb : b < S.w.heap.size := hS.lt ⟨i, o, ho, hl, hr⟩
      refine ⟨us, rest, by rw [hheap b hb]; exact h3, ?_⟩
      exact h4.ext hx
  · intro i o ho s hs; exact hS.bel i o ho s hs
  · intro i j o o' b hi hj hl hl'; exact hS.inj i j o o' b hi hj hl hl'
  · cases hv; exact .val _
end Go.Ab
namespace Go.Proofs.Ytiikfkacbglblaa
open Go.Ab
theorem hm' : Try.prog.follows .mixedOrders = true := Try.checked.mixed
theorem k10 : closedB rows 1000 40 40 10 = true := by kernel_rfl
theorem ok10 {H : List AO} : Ok Try.prog 10 [] H (.ret (bl true)) H := ok_lift (closed_ok hm' rows_ok k10) rfl
end Go.Proofs.Ytiikfkacbglblaa
